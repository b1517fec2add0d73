/-
  A family of sets that lives in new memory; the document's example.
-/
import Derived.Test.YtmljmpjpdgijlaaDoorSetMeets
import Derived.Test.YtmljmpjpdgijlaaDoorSetAdd
import Derived.Test.YtmljmpjpdgijlaaDoorSetNew
set_option linter.unusedVariables false
set_option linter.unusedSimpArgs false
set_option linter.unnecessarySimpa false
namespace Go.Proofs.YtmljmpjpdgijlaaDoor
open Go.ChangeShapes Go.WideShapes Go.ChangeAt Go.RowKit Go.Deep SetPlain

def LiveFam (z : Nat) (w : World) (b : Nat) (R C : Nat) (In : Nat → Nat → Bool) (tot : Nat) (wc : World) : Prop :=
  ∃ (bw : Nat) (rb : Nat → Nat), FamMem wc b bw rb R C In tot ∧ Below z w wc ∧ ∀ k, famFp b bw rb R k → z ≤ k
section
variable {z : Nat} {w wc : World} {b R C : Nat} {In : Nat → Nat → Bool} {tot : Nat}
theorem LiveFam.base (h : LiveFam z w b R C In tot wc) : Below z w wc := by
  obtain ⟨_, _, _, hb, _⟩ := h
  exact hb
theorem LiveFam.size (h : LiveFam z w b R C In tot wc) (hz : z ≤ w.heap.size) : z ≤ wc.heap.size := Nat.le_trans hz h.base.size
theorem LiveFam.keeps (h : LiveFam z w b R C In tot wc) (hz : z ≤ w.heap.size) {w2 : World} (hk : Keeps (fun _ => False) wc w2) : LiveFam z w b R C In tot w2 := by
  have hs := h.size hz
  obtain ⟨bw, rb, m, hb, f⟩ := h
  exact ⟨bw, rb, m.keeps hk (fun _ _ x => x), hb.trans (hk.below hs (fun _ _ x => x)), f⟩
theorem LiveFam.add (h : LiveFam z w b R C In tot wc) (hz : z ≤ w.heap.size) (ht : tot ≤ 1000000000) (i c : Int) (hc0 : -9223372036854775808 ≤ c) (hc1 : c ≤ 9223372036854775807) :
    Calls Tryd.prog 9 #[.pointer (some ⟨b, 0, none⟩), .int .i64 i, .int .i64 c] wc fun e w2 => e = .returned (.bool (addB R C In i c)) ∧ LiveFam z w b R C (addIn R C In i c) (addTot R C In i c tot) w2 ∧ Keeps (fun k => z ≤ k ∧ k < wc.heap.size) wc w2 := by
  have hs := h.size hz
  obtain ⟨bw, rb, m, hb, f⟩ := h
  refine (fadd_spec m ht i c hc0 hc1).mono ?_
  rintro e w2 ⟨rfl, m2, k2⟩
  exact ⟨rfl, ⟨bw, rb, m2, hb.trans (k2.below hs (fun k hk hs => by have := f k hs; omega)), f⟩, k2.mono (fun k hk hs => ⟨f k hs, hk⟩)⟩
theorem LiveFam.has (h : LiveFam z w b R C In tot wc) (i c : Int) (hc0 : -9223372036854775808 ≤ c) (hc1 : c ≤ 9223372036854775807) : Calls Tryd.prog 11 #[.pointer (some ⟨b, 0, none⟩), .int .i64 i, .int .i64 c] wc fun e w2 => e = .returned (.bool (hasB R C In i c)) ∧ wc = w2 := by
  obtain ⟨bw, rb, m, hb, f⟩ := h
  exact fhas_spec m i c hc0 hc1
theorem LiveFam.len (h : LiveFam z w b R C In tot wc) (i : Int) : Calls Tryd.prog 14 #[.pointer (some ⟨b, 0, none⟩), .int .i64 i] wc fun e w2 => e = .returned (.int .i64 (cnt (rowP R In i) C : Nat)) ∧ wc = w2 := by
  obtain ⟨bw, rb, m, hb, f⟩ := h
  exact flen_spec m i
theorem LiveFam.inside (h : LiveFam z w b R C In tot wc) (i o : Int) : Calls Tryd.prog 16 #[.pointer (some ⟨b, 0, none⟩), .int .i64 i, .int .i64 o] wc fun e w2 => e = .returned (.bool (allIn (rowP R In i) (rowP R In o) C)) ∧ wc = w2 := by
  obtain ⟨bw, rb, m, hb, f⟩ := h
  exact finside_spec m i o
theorem LiveFam.meets (h : LiveFam z w b R C In tot wc) (i o : Int) : Calls Tryd.prog 18 #[.pointer (some ⟨b, 0, none⟩), .int .i64 i, .int .i64 o] wc fun e w2 => e = .returned (.bool (anyIn (rowP R In i) (rowP R In o) C)) ∧ wc = w2 := by
  obtain ⟨bw, rb, m, hb, f⟩ := h
  exact fmeets_spec m i o
theorem LiveFam.total (h : LiveFam z w b R C In tot wc) : Calls Tryd.prog 13 #[.pointer (some ⟨b, 0, none⟩)] wc fun e w2 => e = .returned (.int .i64 tot) ∧ wc = w2 := by
  obtain ⟨bw, rb, m, hb, f⟩ := h
  exact ftotal_spec m
theorem newFam (rows cols : Int) (R C : Nat) (hR : Within rows 5000 R) (hC : Within cols 1000 C) (w : World) : Calls Tryd.prog 7 #[.int .i64 rows, .int .i64 cols] w fun e w' => e = .returned (.pointer (some ⟨w.heap.size, 0, none⟩)) ∧ LiveFam w.heap.size w w.heap.size R C (fun _ _ => false) 0 w' := by
  refine (fnew_spec rows cols R C hR hC w).mono ?_
  rintro e w' ⟨rfl, m, hb⟩
  refine ⟨rfl, _, _, m, hb, fun k hk => ?_⟩
  rcases hk with h | h | ⟨i, _, h⟩
  · omega
  · omega
  · have h' : k = w.heap.size + 2 + i := h
    omega
end

def setIn0 : Nat → Nat → Bool := fun _ _ => false
def setIn1 : Nat → Nat → Bool := addIn 2 100 setIn0 0 70
def setIn2 : Nat → Nat → Bool := addIn 2 100 setIn1 1 70
theorem setL0 : addB 2 100 setIn0 0 70 = true := by decide
theorem setL1 : addB 2 100 setIn1 1 70 = true := by decide
theorem setL2 : addB 2 100 setIn2 1 70 = false := by decide
theorem setL3 : anyIn (rowP 2 setIn2 0) (rowP 2 setIn2 1) 100 = true := by decide

def SetLivesPost (w : World) (e : Ending) (w' : World) : Prop := e = .returned (.bool true) ∧ Below w.heap.size w w'
set_option maxRecDepth 100000 in
set_option maxHeartbeats 1600000 in
theorem setLives_any (w : World) : Calls Tryd.prog 24 #[] w (SetLivesPost w) := by
  have H0 := Lib.hid (newFam 2 100 2 100 (.inr (.inl ⟨by decide, by decide, rfl⟩)) (.inr (.inl ⟨by decide, by decide, rfl⟩)) w)
  have H1 : Hid (∀ w1, LiveFam w.heap.size w w.heap.size 2 100 setIn0 0 w1 → Calls Tryd.prog 9 #[.pointer (some ⟨w.heap.size, 0, none⟩), .int .i64 0, .int .i64 70] w1 fun e w2 => e = .returned (.bool true) ∧ LiveFam w.heap.size w w.heap.size 2 100 setIn1 1 w2) := fun w1 h => by
    have := h.add (Nat.le_refl _) (by decide) 0 70 (by decide) (by decide)
    unfold addTot at this
    rw [setL0] at this
    exact this.mono fun e w2 hh => ⟨hh.1, hh.2.1⟩
  have H2 : Hid (∀ w1, LiveFam w.heap.size w w.heap.size 2 100 setIn1 1 w1 → Calls Tryd.prog 9 #[.pointer (some ⟨w.heap.size, 0, none⟩), .int .i64 1, .int .i64 70] w1 fun e w2 => e = .returned (.bool true) ∧ LiveFam w.heap.size w w.heap.size 2 100 setIn2 2 w2) := fun w1 h => by
    have := h.add (Nat.le_refl _) (by decide) 1 70 (by decide) (by decide)
    unfold addTot at this
    rw [setL1] at this
    exact this.mono fun e w2 hh => ⟨hh.1, hh.2.1⟩
  have H3 : Hid (∀ w1, LiveFam w.heap.size w w.heap.size 2 100 setIn2 2 w1 → Calls Tryd.prog 18 #[.pointer (some ⟨w.heap.size, 0, none⟩), .int .i64 0, .int .i64 1] w1 fun e w2 => e = .returned (.bool true) ∧ w1 = w2) := fun w1 h => by
    have := h.meets 0 1
    rw [setL3] at this
    exact this
  have H4 : Hid (∀ w1, LiveFam w.heap.size w w.heap.size 2 100 setIn2 2 w1 → Calls Tryd.prog 9 #[.pointer (some ⟨w.heap.size, 0, none⟩), .int .i64 1, .int .i64 70] w1 fun e w2 => e = .returned (.bool false) ∧ LiveFam w.heap.size w w.heap.size 2 100 setIn2 2 w2) := fun w1 h => by
    have := h.add (Nat.le_refl _) (by decide) 1 70 (by decide) (by decide)
    unfold addTot addIn at this
    rw [setL2] at this
    exact this.mono fun e w2 hh => ⟨hh.1, hh.2.1⟩
  have H5 : Hid (∀ w1, LiveFam w.heap.size w w.heap.size 2 100 setIn2 2 w1 → Calls Tryd.prog 13 #[.pointer (some ⟨w.heap.size, 0, none⟩)] w1 fun e w2 => e = .returned (.int .i64 2) ∧ w1 = w2) := fun w1 h => h.total
  go_enter Tryd.func24, Tryd.ntmps24
  go_wp2_with fail
  refine H0.out.mono ?_
  rintro e w1 ⟨rfl, t1⟩
  have T1 : Hid (LiveFam w.heap.size w w.heap.size 2 100 setIn0 0 w1) := t1
  clear t1 H0
  go_wp2_with fail
  refine (H1.out _ T1.out).mono ?_
  rintro e w2 ⟨rfl, t2⟩
  have T2 := Lib.hid t2
  clear t2 H1 T1
  go_wp2_with fail
  refine (H2.out _ T2.out).mono ?_
  rintro e w3 ⟨rfl, t3⟩
  have T3 := Lib.hid t3
  clear t3 H2 T2
  go_wp2_with fail
  refine (H3.out _ T3.out).mono ?_
  rintro e w4 ⟨rfl, rfl⟩
  clear H3
  go_wp2_with fail
  refine (H4.out _ T3.out).mono ?_
  rintro e w5 ⟨rfl, t5⟩
  have T5 := Lib.hid t5
  clear t5 H4 T3
  go_wp2_with fail
  refine (H5.out _ T5.out).mono ?_
  rintro e w6 ⟨rfl, rfl⟩
  go_wp2_with fail
  go_ret
  exact ⟨rfl, T5.out.base⟩
end Go.Proofs.YtmljmpjpdgijlaaDoor
