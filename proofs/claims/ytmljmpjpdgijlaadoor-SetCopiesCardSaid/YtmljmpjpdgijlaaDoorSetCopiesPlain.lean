/-
  A family and the same with one more: who has all that the other has; a family and its copy, side by side in memory.
-/
import Derived.Test.YtmljmpjpdgijlaaDoorSetWithin
import Derived.Test.YtmljmpjpdgijlaaDoorSetCopy
import Derived.Test.YtmljmpjpdgijlaaDoorSetLives
import Derived.Test.YtmljmpjpdgijlaaDoorSetNone
set_option linter.unusedVariables false
set_option linter.unusedSimpArgs false
set_option linter.unnecessarySimpa false
namespace Go.Proofs.YtmljmpjpdgijlaaDoor
open Go.ChangeShapes Go.WideShapes Go.ChangeAt Go.RowKit Go.Deep SetPlain
theorem winTo_iff {In In2 : Nat → Nat → Bool} {C : Nat} : ∀ n, winTo In In2 C n = true ↔ ∀ i, i < n → ∀ c, c < C → In i c = true → In2 i c = true
  | 0 => ⟨fun _ i h => absurd h (Nat.not_lt_zero _), fun _ => rfl⟩
  | n + 1 => by
    unfold winTo
    rw [Bool.and_eq_true, winTo_iff n, allIn_iff]
    constructor
    · rintro ⟨h1, h2⟩ i hi
      rcases Nat.lt_or_ge i n with h | h
      · exact h1 i h
      · obtain rfl : i = n := by omega
        exact h2
    · intro h
      exact ⟨fun i hi => h i (by omega), h n (by omega)⟩
/-- All that was in is in after it. -/
theorem win_more {R C : Nat} {In : Nat → Nat → Bool} {i c : Int} : winTo In (addIn R C In i c) C R = true := by
  rw [winTo_iff]
  intro a _ d _ h
  unfold addIn
  split
  · show (if a = i.toNat then upd (In a) c.toNat else In a) d = true
    split
    · show (decide (d = c.toNat) || In a d) = true
      rw [h, Bool.or_true]
    · exact h
  · exact h
/-- What was added was not in. -/
theorem win_back {R C : Nat} {In : Nat → Nat → Bool} {i c : Int} : winTo (addIn R C In i c) In C R = !addB R C In i c := by
  cases h : addB R C In i c with
  | false =>
    show winTo (addIn R C In i c) In C R = true
    rw [winTo_iff]
    intro a _ d _ hin
    unfold addIn at hin
    rw [h] at hin
    exact hin
  | true =>
    show winTo (addIn R C In i c) In C R = false
    have h' := h
    unfold addB at h'
    rw [Bool.and_eq_true, decide_eq_true_iff] at h'
    obtain ⟨⟨h0, h1, h2, h3⟩, h4⟩ := h'
    have hn : ¬ winTo (addIn R C In i c) In C R = true := by
      rw [winTo_iff]
      intro hw
      have := hw i.toNat (by omega) c.toNat (by omega) (by unfold addIn; rw [h]; show updIn In i.toNat c.toNat i.toNat c.toNat = true; unfold updIn upd; simp)
      have h5 : hasB R C In i c = true := by
        unfold hasB rowP
        rw [if_pos ⟨h0, h1⟩, this]
        simp [h2, h3]
      rw [h5] at h4
      exact absurd h4 (by simp)
    exact Bool.eq_false_iff.2 hn
theorem add_not {R C : Nat} {In : Nat → Nat → Bool} {i c : Int} (h : addB R C In i c = true) : hasB R C In i c = false := by
  unfold addB at h
  rw [Bool.and_eq_true] at h
  simpa using h.2
/-- A family that lives on, its copy as it was, and a box of two numbers. -/
structure Twin (z : Nat) (w : World) (bx b : Nat) (p0 p1 : Int) (R C : Nat) (In : Nat → Nat → Bool) (tot : Nat) (b2 : Nat) (In2 : Nat → Nat → Bool) (tot2 : Nat) (W : World) : Prop where
  live : LiveFam z w b R C In tot W
  copy : ∃ bw2 rg2 rc2, FamRead W b2 bw2 rg2 rc2 R C In2 tot2
  box0 : W.cell? ⟨bx, 0, none⟩ = some (.int .i64 p0)
  box1 : W.cell? ⟨bx, 1, none⟩ = some (.int .i64 p1)
theorem FamRead.keeps {w w' : World} {b bw : Nat} {rg rc : Nat → Nat} {R C : Nat} {In : Nat → Nat → Bool} {tot : Nat} (h : FamRead w b bw rg rc R C In tot) {S : Nat → Prop} (hk : Keeps S w w') (h0 : ¬ S b) (h1 : ¬ S bw) (h2 : ∀ i, i < R → ¬ S (rg i)) (h3 : 0 < R → bw < w.heap.size) : FamRead w' b bw rg rc R C In tot := by
  have lb := lt_of_cell h.c0
  exact ⟨(hk.cell (p := ⟨b, 0, none⟩) lb h0).trans h.c0, (hk.cell (p := ⟨b, 1, none⟩) lb h0).trans h.c1, (hk.cell (p := ⟨b, 2, none⟩) lb h0).trans h.c2, (hk.cell (p := ⟨b, 3, none⟩) lb h0).trans h.c3,
    fun i hi => (hk.cell (p := ⟨bw, i, none⟩) (h3 (by omega)) h1).trans (h.row i hi), h.le, fun i hi => Nat.lt_of_lt_of_le (h.lt i hi) hk.size,
    fun i hi k hk' => (hk.cell (p := ⟨rg i, k, none⟩) (h.lt i hi) (h2 i hi)).trans (h.word i hi k hk'), h.out, h.hR, h.hC⟩
theorem FamRead.bw_lt {w : World} {b bw : Nat} {rg rc : Nat → Nat} {R C : Nat} {In : Nat → Nat → Bool} {tot : Nat} (h : FamRead w b bw rg rc R C In tot) : 0 < R → bw < w.heap.size := fun hR => lt_of_cell (h.row 0 hR)
section
variable {z : Nat} {w : World} {bx b : Nat} {p0 p1 : Int} {R C : Nat} {In : Nat → Nat → Bool} {tot : Nat} {b2 : Nat} {In2 : Nat → Nat → Bool} {tot2 : Nat} {W : World}
theorem Twin.drew (h : Twin z w bx b p0 p1 R C In tot b2 In2 tot2 W) (hz : z ≤ w.heap.size) {W' : World} (hk : Keeps (fun _ => False) W W') : Twin z w bx b p0 p1 R C In tot b2 In2 tot2 W' := by
  obtain ⟨bw2, rg2, rc2, hc⟩ := h.copy
  have l0 := lt_of_cell h.box0
  exact ⟨h.live.keeps hz hk, ⟨bw2, rg2, rc2, hc.keeps hk (fun x => x) (fun x => x) (fun _ _ x => x) hc.bw_lt⟩, (hk.cell (p := ⟨bx, 0, none⟩) l0 (fun x => x)).trans h.box0, (hk.cell (p := ⟨bx, 1, none⟩) l0 (fun x => x)).trans h.box1⟩
/-- The family, its copy and the box, ahead of the next number. -/
def Pre (y z : Nat) (w : World) (bx b : Nat) (p0 p1 : Int) (R C : Nat) (In : Nat → Nat → Bool) (tot : Nat) (b2 : Nat) (W : World) : Prop :=
  (∃ bw rb, FamMem W b bw rb R C In tot ∧ Below z w W ∧ ∀ k, famFp b bw rb R k → z ≤ k ∧ k < y) ∧ CopyOut y b2 R C In tot W ∧ W.cell? ⟨bx, 0, none⟩ = some (.int .i64 p0) ∧ W.cell? ⟨bx, 1, none⟩ = some (.int .i64 p1)
/-- Copy makes the twin. -/
theorem twin_copy {wr : World} (h : LiveFam z w b R C In tot wr) (hz : z ≤ w.heap.size) (hk : Keeps (fun _ => False) wr W) (hx : bx < W.heap.size) (h0 : W.cell? ⟨bx, 0, none⟩ = some (.int .i64 p0)) (h1 : W.cell? ⟨bx, 1, none⟩ = some (.int .i64 p1)) :
    Calls Tryd.prog 25 #[.pointer (some ⟨b, 0, none⟩)] W fun e w' => ∃ b2, e = .returned (.pointer (some ⟨b2, 0, none⟩)) ∧ Hid (Pre wr.heap.size z w bx b p0 p1 R C In tot b2 w') := by
  have hs := h.size hz
  obtain ⟨bw, rb, m, hb, f⟩ := h
  have m2 := m.keeps hk (fun _ _ x => x)
  have hl := m.lt
  refine (fcopy_spec m2).mono ?_
  rintro e w' ⟨rfl, ⟨bw2, rg2, rc2, r2, hb2, hbw2, hrg2⟩, hbl⟩
  have hk' : Keeps (fun _ => False) W w' := Keeps.of_below hbl (Nat.le_refl _)
  have hs' := hk.size
  exact ⟨_, rfl, ⟨bw, rb, m2.keeps hk' (fun _ _ x => x), hb.trans ((hk.trans hk').below hs (fun _ _ x => x)), fun k hk => ⟨f k hk, hl k hk⟩⟩,
    ⟨bw2, rg2, rc2, r2, by omega, by omega, fun i hi => by have := hrg2 i hi; omega⟩, (hk'.cell (p := ⟨bx, 0, none⟩) hx (fun x => x)).trans h0, (hk'.cell (p := ⟨bx, 1, none⟩) hx (fun x => x)).trans h1⟩
theorem Pre.drew {y : Nat} (h : Pre y z w bx b p0 p1 R C In tot b2 W) (hz : z ≤ w.heap.size) : Pre y z w bx b p0 p1 R C In tot b2 W.drew := by
  obtain ⟨⟨bw, rb, m, hb, f⟩, ⟨bw2, rg2, rc2, r2, hb2, hbw2, hrg2⟩, h0, h1⟩ := h
  have hk : Keeps (fun _ => False) W W.drew := (Keeps.refl _ _).drew
  exact ⟨⟨bw, rb, m.keeps hk (fun _ _ x => x), hb.drew, f⟩, ⟨bw2, rg2, rc2, r2.keeps hk (fun x => x) (fun x => x) (fun _ _ x => x) r2.bw_lt, hb2, hbw2, hrg2⟩, h0, h1⟩
/-- The family goes on alone. -/
theorem Pre.add {y : Nat} (h : Pre y z w bx b p0 p1 R C In tot b2 W) (hz : z ≤ w.heap.size) (hy : y ≤ bx) (ht : tot ≤ 1000000000) (h10 : -9223372036854775808 ≤ p1) (h11 : p1 ≤ 9223372036854775807) :
    Calls Tryd.prog 9 #[.pointer (some ⟨b, 0, none⟩), .int .i64 p0, .int .i64 p1] W fun e w' => e = .returned (.bool (addB R C In p0 p1)) ∧ Hid (Twin z w bx b p0 p1 R C (addIn R C In p0 p1) (addTot R C In p0 p1 tot) b2 In tot w') := by
  obtain ⟨⟨bw, rb, m, hb, f⟩, ⟨bw2, rg2, rc2, r2, hb2, hbw2, hrg2⟩, h0, h1⟩ := h
  have hs : z ≤ W.heap.size := Nat.le_trans hz hb.size
  have lx := lt_of_cell h0
  refine (fadd_spec m ht p0 p1 h10 h11).mono ?_
  rintro e w' ⟨rfl, m2, hk⟩
  have hno : ∀ k, y ≤ k → ¬ famFp b bw rb R k := fun k hk hf => by have := (f k hf).2; omega
  exact ⟨rfl, ⟨bw, rb, m2, hb.trans (hk.below hs (fun k hk hs => by have := (f k hs).1; omega)), fun k hf => (f k hf).1⟩,
    ⟨bw2, rg2, rc2, r2.keeps hk (hno _ hb2) (hno _ hbw2) (fun i hi => hno _ (hrg2 i hi)) r2.bw_lt⟩,
    (hk.cell (p := ⟨bx, 0, none⟩) lx (hno _ hy)).trans h0, (hk.cell (p := ⟨bx, 1, none⟩) lx (hno _ hy)).trans h1⟩
theorem Twin.s (h : Hid (Twin z w bx b p0 p1 R C In tot b2 In2 tot2 W)) : W.cell? ⟨bx, 0, none⟩ = some (.int .i64 p0) ∧ W.cell? ⟨bx, 1, none⟩ = some (.int .i64 p1) := ⟨h.out.box0, h.out.box1⟩
theorem Twin.win (h : Hid (Twin z w bx b p0 p1 R C In tot b2 In2 tot2 W)) (x y : Nat) (hx : x = b2) (hy : y = b) : Calls Tryd.prog 26 #[.pointer (some ⟨x, 0, none⟩), .pointer (some ⟨y, 0, none⟩)] W fun e w' => e = .returned (.bool (winTo In2 In C R)) ∧ Hid (Twin z w bx b p0 p1 R C In tot b2 In2 tot2 w') := by
  subst hx; subst hy
  obtain ⟨bw, rb, m, _⟩ := h.out.live
  obtain ⟨bw2, rg2, rc2, r2⟩ := h.out.copy
  refine (rdwithin_spec r2 m.read).mono ?_
  rintro e w' ⟨rfl, rfl⟩
  exact ⟨rfl, h⟩
theorem Twin.back (h : Hid (Twin z w bx b p0 p1 R C In tot b2 In2 tot2 W)) (x y : Nat) (hx : x = b) (hy : y = b2) : Calls Tryd.prog 26 #[.pointer (some ⟨x, 0, none⟩), .pointer (some ⟨y, 0, none⟩)] W fun e w' => e = .returned (.bool (winTo In In2 C R)) ∧ Hid (Twin z w bx b p0 p1 R C In tot b2 In2 tot2 w') := by
  subst hx; subst hy
  obtain ⟨bw, rb, m, _⟩ := h.out.live
  obtain ⟨bw2, rg2, rc2, r2⟩ := h.out.copy
  refine (rdwithin_spec m.read r2).mono ?_
  rintro e w' ⟨rfl, rfl⟩
  exact ⟨rfl, h⟩
theorem Twin.has (h : Hid (Twin z w bx b p0 p1 R C In tot b2 In2 tot2 W)) (i c : Int) (hc0 : -9223372036854775808 ≤ c) (hc1 : c ≤ 9223372036854775807) : Calls Tryd.prog 11 #[.pointer (some ⟨b2, 0, none⟩), .int .i64 i, .int .i64 c] W fun e w' => e = .returned (.bool (hasB R C In2 i c)) ∧ Hid (Twin z w bx b p0 p1 R C In tot b2 In2 tot2 w') := by
  obtain ⟨bw2, rg2, rc2, r2⟩ := h.out.copy
  refine (rdhas_spec r2 i c hc0 hc1).mono ?_
  rintro e w' ⟨rfl, rfl⟩
  exact ⟨rfl, h⟩
theorem Twin.total (h : Hid (Twin z w bx b p0 p1 R C In tot b2 In2 tot2 W)) (x : Nat) (hx : x = b) : Calls Tryd.prog 13 #[.pointer (some ⟨x, 0, none⟩)] W fun e w' => e = .returned (.int .i64 tot) ∧ Hid (Twin z w bx b p0 p1 R C In tot b2 In2 tot2 w') := by
  subst hx
  obtain ⟨bw, rb, m, _⟩ := h.out.live
  refine (ftotal_spec m).mono ?_
  rintro e w' ⟨rfl, rfl⟩
  exact ⟨rfl, h⟩
theorem Twin.total2 (h : Hid (Twin z w bx b p0 p1 R C In tot b2 In2 tot2 W)) (x : Nat) (hx : x = b2) : Calls Tryd.prog 13 #[.pointer (some ⟨x, 0, none⟩)] W fun e w' => e = .returned (.int .i64 tot2) ∧ Hid (Twin z w bx b p0 p1 R C In tot b2 In2 tot2 w') := by
  subst hx
  obtain ⟨bw2, rg2, rc2, r2⟩ := h.out.copy
  refine (rdtotal_spec r2).mono ?_
  rintro e w' ⟨rfl, rfl⟩
  exact ⟨rfl, h⟩
end
end Go.Proofs.YtmljmpjpdgijlaaDoor
