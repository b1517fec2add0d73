/-
  A family that is read alone: its rows may have room to spare.
-/
import Derived.Test.YtmljmpjpdgijlaaDoorSetTab
set_option linter.unusedVariables false
set_option linter.unusedSimpArgs false
set_option linter.unnecessarySimpa false
namespace Go.Proofs.YtmljmpjpdgijlaaDoor
open Go.ChangeShapes Go.WideShapes Go.ChangeAt Go.RowKit Go.Deep SetPlain
structure FamRead (w : World) (b bw : Nat) (rg rc : Nat → Nat) (R C : Nat) (In : Nat → Nat → Bool) (tot : Nat) : Prop where
  c0 : w.cell? ⟨b, 0, none⟩ = some (.int .i64 R)
  c1 : w.cell? ⟨b, 1, none⟩ = some (.int .i64 C)
  c2 : w.cell? ⟨b, 2, none⟩ = some (.slice (some ⟨bw, 0, none⟩) R R)
  c3 : w.cell? ⟨b, 3, none⟩ = some (.int .i64 tot)
  row : ∀ i, i < R → w.cell? ⟨bw, i, none⟩ = some (.slice (some ⟨rg i, 0, none⟩) (wordsOf C) (rc i))
  le : ∀ i, i < R → wordsOf C ≤ rc i
  lt : ∀ i, i < R → rg i < w.heap.size
  word : ∀ i, i < R → ∀ k, k < wordsOf C → w.cell? ⟨rg i, k, none⟩ = some (.int .u64 (wordOf (In i) k))
  out : ∀ i c, C ≤ c → In i c = false
  hR : R ≤ 5000
  hC : C ≤ 1000
theorem FamMem.read {w : World} {b bw : Nat} {rb : Nat → Nat} {R C : Nat} {In : Nat → Nat → Bool} {tot : Nat} (h : FamMem w b bw rb R C In tot) : FamRead w b bw rb (fun _ => wordsOf C) R C In tot :=
  ⟨by rw [cell_of_heap h.obj]; rfl, by rw [cell_of_heap h.obj]; rfl, by rw [cell_of_heap h.obj]; rfl, by rw [cell_of_heap h.obj]; rfl,
    fun i hi => by rw [cell_of_heap h.rows]; exact fnRow_get _ _ _ hi, fun _ _ => Nat.le_refl _, fun i hi => lt_of_heap (h.row i hi),
    fun i hi k hk => by rw [cell_of_heap (h.row i hi)]; exact fnRow_get _ _ _ hk, h.out, h.hR, h.hC⟩
def rowVc (rg rc : Nat → Nat) (R K : Nat) (i : Int) : Value := if 0 ≤ i ∧ i < R then .slice (some ⟨rg i.toNat, 0, none⟩) K (rc i.toNat) else .slice none 0 0
def RowAtC (w : World) (v : Value) (K : Nat) (p : Nat → Bool) : Prop :=
  (v = .slice none 0 0 ∧ ∀ j, p j = false) ∨ ∃ g cp, v = .slice (some ⟨g, 0, none⟩) K cp ∧ K ≤ cp ∧ g < w.heap.size ∧ ∀ k, k < K → w.cell? ⟨g, k, none⟩ = some (.int .u64 (wordOf p k))
section
variable {w : World} {b bw : Nat} {rg rc : Nat → Nat} {R C : Nat} {In : Nat → Nat → Bool} {tot : Nat}
theorem FamRead.at_ (h : FamRead w b bw rg rc R C In tot) (i : Int) : RowAtC w (rowVc rg rc R (wordsOf C) i) (wordsOf C) (rowP R In i) := by
  unfold rowVc rowP
  by_cases hi : 0 ≤ i ∧ i < R
  · rw [if_pos hi, if_pos hi]
    exact .inr ⟨rg i.toNat, rc i.toNat, rfl, h.le _ (by omega), h.lt _ (by omega), h.word _ (by omega)⟩
  · rw [if_neg hi, if_neg hi]
    exact .inl ⟨rfl, fun _ => rfl⟩
set_option maxRecDepth 10000 in
theorem rdrows_spec (h : FamRead w b bw rg rc R C In tot) : Calls Tryd.prog 22 #[.pointer (some ⟨b, 0, none⟩)] w fun e w' => e = .returned (.int .i64 R) ∧ w = w' := by
  have c0 : w.cell? ⟨b, 0, none⟩ = some (.int .i64 R) := h.c0
  go_enter Tryd.func22, Tryd.ntmps22
  go_wp2
  go_ret
  exact ⟨rfl, rfl⟩
set_option maxRecDepth 10000 in
theorem rdtotal_spec (h : FamRead w b bw rg rc R C In tot) : Calls Tryd.prog 13 #[.pointer (some ⟨b, 0, none⟩)] w fun e w' => e = .returned (.int .i64 tot) ∧ w = w' := by
  have c0 : w.cell? ⟨b, 3, none⟩ = some (.int .i64 tot) := h.c3
  go_enter Tryd.func13, Tryd.ntmps13
  go_wp2
  go_ret
  exact ⟨rfl, rfl⟩
set_option maxRecDepth 10000 in
set_option maxHeartbeats 800000 in
theorem rdrow_spec (h : FamRead w b bw rg rc R C In tot) (i : Int) : Calls Tryd.prog 35 #[.pointer (some ⟨b, 0, none⟩), .int .i64 i] w fun e w' => e = .returned (rowVc rg rc R (wordsOf C) i) ∧ w = w' := by
  have HR := Lib.hid (rdrows_spec h)
  have hR := h.hR
  rcases Int.lt_or_le i 0 with h0 | h0
  · rw [show rowVc rg rc R (wordsOf C) i = .slice none 0 0 from by unfold rowVc; rw [if_neg (by omega)]]
    clear h
    go_enter Tryd.func35, Tryd.ntmps35
    go_wp2
    go_ret
    exact ⟨rfl, rfl⟩
  · rcases Int.lt_or_le i R with h1 | h1
    · obtain ⟨k, rfl⟩ : ∃ k : Nat, i = k := ⟨i.toNat, by omega⟩
      rw [show rowVc rg rc R (wordsOf C) (k : Int) = .slice (some ⟨rg k, 0, none⟩) (wordsOf C) (rc k) from by unfold rowVc; rw [if_pos ⟨h0, h1⟩]; rfl]
      have c2 : w.cell? ⟨b, 2, none⟩ = some (.slice (some ⟨bw, 0, none⟩) R R) := h.c2
      have cr : w.cell? ⟨bw, k, none⟩ = some (.slice (some ⟨rg k, 0, none⟩) (wordsOf C) (rc k)) := h.row k (by omega)
      clear h
      go_enter Tryd.func35, Tryd.ntmps35
      go_wp2_with (go_at_call 22; refine HR.out.mono ?_; rintro e w' ⟨rfl, rfl⟩)
      go_ret
      exact ⟨rfl, rfl⟩
    · rw [show rowVc rg rc R (wordsOf C) i = .slice none 0 0 from by unfold rowVc; rw [if_neg (by omega)]]
      clear h
      go_enter Tryd.func35, Tryd.ntmps35
      go_wp2_with (go_at_call 22; refine HR.out.mono ?_; rintro e w' ⟨rfl, rfl⟩)
      go_ret
      exact ⟨rfl, rfl⟩

set_option maxRecDepth 10000 in
set_option maxHeartbeats 800000 in
theorem rdhas_spec (h : FamRead w b bw rg rc R C In tot) (i c : Int) (hc0 : -9223372036854775808 ≤ c) (hc1 : c ≤ 9223372036854775807) : Calls Tryd.prog 11 #[.pointer (some ⟨b, 0, none⟩), .int .i64 i, .int .i64 c] w fun e w' => e = .returned (.bool (hasB R C In i c)) ∧ w = w' := by
  have HR := Lib.hid (rdrow_spec h i)
  have hat := h.at_ i
  have hC := h.hC
  have c1 : w.cell? ⟨b, 1, none⟩ = some (.int .i64 C) := h.c1
  unfold hasB
  generalize rowVc rg rc R (wordsOf C) i = v at HR hat
  generalize rowP R In i = p at hat ⊢
  clear h
  rcases hat with ⟨rfl, hp⟩ | ⟨g, cp, rfl, hcp, hg, hcell⟩
  · rw [hp, Bool.and_false]
    go_enter Tryd.func11, Tryd.ntmps11
    go_wp2_with (go_at_call 35; refine HR.out.mono ?_; rintro e w' ⟨rfl, rfl⟩)
    go_ret
    exact ⟨rfl, rfl⟩
  · have HC := Lib.hid hcell
    clear hcell
    rcases Int.lt_or_le c 0 with h0 | h0
    · rw [show decide (0 ≤ c ∧ c < (C : Int)) = false from by simp; omega, Bool.false_and]
      go_enter Tryd.func11, Tryd.ntmps11
      go_wp2_with (go_at_call 35; refine HR.out.mono ?_; rintro e w' ⟨rfl, rfl⟩)
      go_ret
      exact ⟨rfl, rfl⟩
    · rcases Int.lt_or_le c C with h1 | h1
      · rw [show decide (0 ≤ c ∧ c < (C : Int)) = true from by simp; omega, Bool.true_and]
        obtain ⟨m, rfl⟩ : ∃ m : Nat, c = m := ⟨c.toNat, by omega⟩
        have hK := wordsOf_lt C m (by omega)
        have hm := wordOf_bit p m
        have hl := wordOf_lt p (m / 64)
        have hb := shr_bit (wordOf p (m / 64)) (m % 64) hl
        rw [hm] at hb
        have cw := HC.out (m / 64) hK
        obtain ⟨q, hq⟩ : ∃ q, q = m / 64 := ⟨_, rfl⟩
        obtain ⟨j, hj⟩ : ∃ j, j = m % 64 := ⟨_, rfl⟩
        rw [← hq] at hK hb cw hl
        rw [← hj] at hb
        generalize wordOf p q = X at cw hb hl
        rw [show ((m : Int)).toNat = m from rfl]
        rw [← hb]
        have e1 : (m : Int) / 64 = (q : Int) := by omega
        have e2 : (m : Int) % 64 = (j : Int) := by omega
        have hKI : (q : Int) < (wordsOf C : Int) := by omega
        have hj64 : (j : Int) < 64 := by omega
        clear hm hb hq hj HC hl
        go_enter Tryd.func11, Tryd.ntmps11
        go_wp2_with (go_at_call 35; refine HR.out.mono ?_; rintro e w' ⟨rfl, rfl⟩)
        go_ret
        exact ⟨rfl, rfl⟩
      · rw [show decide (0 ≤ c ∧ c < (C : Int)) = false from by simp; omega, Bool.false_and]
        go_enter Tryd.func11, Tryd.ntmps11
        go_wp2_with (go_at_call 35; refine HR.out.mono ?_; rintro e w' ⟨rfl, rfl⟩)
        go_ret
        exact ⟨rfl, rfl⟩
end
end Go.Proofs.YtmljmpjpdgijlaaDoor
