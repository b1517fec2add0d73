/-
  The state of the law SetPlays' rounds: a box with the pair, the two sets; and what may be asked of both.
-/
import Derived.Test.YtmljmpjpdgijlaaDoorSetBoth
import Derived.Test.YtmljmpjpdgijlaaDoorSetCols
set_option linter.unusedVariables false
set_option linter.unusedSimpArgs false
set_option linter.unnecessarySimpa false
namespace Go.Proofs.YtmljmpjpdgijlaaDoor
open Go.ChangeShapes Go.WideShapes Go.ChangeAt Go.RowKit Go.Deep SetPlain

def slAo (r : Nat) (W : World) : Option Addr := match W.cell? ⟨r, 2, none⟩ with | some (.slice a _ _) => a | _ => none
def slN (r : Nat) (W : World) : Nat := match W.cell? ⟨r, 2, none⟩ with | some (.slice _ n _) => n | _ => 0
def slC (r : Nat) (W : World) : Nat := match W.cell? ⟨r, 2, none⟩ with | some (.slice _ _ c) => c | _ => 0
theorem sl_cell {W : World} {r : Nat} {vr : Value} {R C : Nat} {L : Nat → Int × Int} {n : Nat} (h : RfMem W r vr R C L n) : W.cell? ⟨r, 2, none⟩ = some (.slice (slAo r W) (slN r W) (slC r W)) ∧ slN r W = n := by
  obtain ⟨ao, cap, rfl, _⟩ := h.row
  have e : W.cell? ⟨r, 2, none⟩ = some (.slice ao n cap) := by rw [cell_of_heap h.obj]; rfl
  unfold slAo slN slC
  rw [e]
  exact ⟨rfl, rfl⟩

/-- What the statement reads, as it is now. -/
def PlayS (bx r : Nat) (p0 p1 : Int) (W : World) : Prop :=
  W.cell? ⟨bx, 0, none⟩ = some (.int .i64 p0) ∧ W.cell? ⟨bx, 1, none⟩ = some (.int .i64 p1) ∧ W.cell? ⟨r, 2, none⟩ = some (.slice (slAo r W) (slN r W) (slC r W))
/-- The state: the box, the two sets. -/
def PlayT (bx : Nat) (p0 p1 : Int) (z y : Nat) (w : World) (b R C : Nat) (In : Nat → Nat → Bool) (tot r : Nat) (L : Nat → Int × Int) (n : Nat) (W : World) : Prop :=
  bx < W.heap.size ∧ W.cell? ⟨bx, 0, none⟩ = some (.int .i64 p0) ∧ W.cell? ⟨bx, 1, none⟩ = some (.int .i64 p1) ∧ ∃ vr, SR z y w W b R C In tot r vr L n
section
variable {bx : Nat} {p0 p1 : Int} {z y : Nat} {w : World} {b R C : Nat} {In : Nat → Nat → Bool} {tot r : Nat} {L : Nat → Int × Int} {n : Nat} {W : World}
theorem PlayT.s (h : PlayT bx p0 p1 z y w b R C In tot r L n W) : PlayS bx r p0 p1 W := by
  obtain ⟨_, h1, h2, vr, h3⟩ := h
  exact ⟨h1, h2, (sl_cell h3.ref).1⟩
theorem PlayT.len (h : PlayT bx p0 p1 z y w b R C In tot r L n W) : slN r W = n := by
  obtain ⟨_, h1, h2, vr, h3⟩ := h
  exact (sl_cell h3.ref).2
theorem PlayT.keeps (h : PlayT bx p0 p1 z y w b R C In tot r L n W) (hz : z ≤ w.heap.size) {W' : World} (hk : Keeps (fun _ => False) W W') : PlayT bx p0 p1 z y w b R C In tot r L n W' := by
  obtain ⟨h0, h1, h2, vr, h3⟩ := h
  exact ⟨Nat.lt_of_lt_of_le h0 hk.size, (hk.cell (p := ⟨bx, 0, none⟩) h0 (fun x => x)).trans h1, (hk.cell (p := ⟨bx, 1, none⟩) h0 (fun x => x)).trans h2, vr, h3.keeps hz hk⟩
theorem PlayT.add (h : PlayT bx p0 p1 z bx w b R C In tot r L n W) (hz : z ≤ w.heap.size) (ht : tot ≤ 1000000000) (h10 : -9223372036854775808 ≤ p1) (h11 : p1 ≤ 9223372036854775807) :
    Calls Tryd.prog 9 #[.pointer (some ⟨b, 0, none⟩), .int .i64 p0, .int .i64 p1] W fun e w2 => e = .returned (.bool (addB R C In p0 p1)) ∧ PlayT bx p0 p1 z bx w b R C (addIn R C In p0 p1) (addTot R C In p0 p1 tot) r L n w2 := by
  obtain ⟨h0, h1, h2, vr, h3⟩ := h
  refine (h3.add hz ht p0 p1 h10 h11).mono ?_
  rintro e w2 ⟨rfl, s2, k2⟩
  exact ⟨rfl, Nat.lt_of_lt_of_le h0 k2.size, (k2.cell (p := ⟨bx, 0, none⟩) h0 (by simp)).trans h1, (k2.cell (p := ⟨bx, 1, none⟩) h0 (by simp)).trans h2, vr, s2⟩
def PlayR (bx : Nat) (p0 p1 : Int) (z : Nat) (w : World) (b R C : Nat) (In : Nat → Nat → Bool) (tot r : Nat) (L : Nat → Int × Int) (n : Nat) (W : World) : Prop := ∃ y, PlayT bx p0 p1 z y w b R C In tot r L n W
theorem PlayT.radd (h : PlayT bx p0 p1 z bx w b R C In tot r L n W) (hz : z ≤ w.heap.size) (hn : n ≤ 1000000000) :
    Calls Tryd.prog 10 #[.pointer (some ⟨r, 0, none⟩), .int .i64 p0, .int .i64 p1] W fun e w2 => e = .returned (.bool (rfAddB R C L n p0 p1)) ∧ PlayR bx p0 p1 z w b R C In tot r (if rfAddB R C L n p0 p1 then addP L n (p0, p1) else L) (if rfAddB R C L n p0 p1 then n + 1 else n) w2 := by
  obtain ⟨h0, h1, h2, vr, h3⟩ := h
  have hfp := h3.fp
  refine (h3.radd hz (Nat.le_of_lt h0) hn p0 p1).mono ?_
  rintro e w2 ⟨rfl, ⟨vr2, s2⟩, k2⟩
  exact ⟨rfl, _, Nat.lt_of_lt_of_le h0 k2.size, (k2.cell (p := ⟨bx, 0, none⟩) h0 (fun h => Nat.lt_irrefl _ (hfp _ h))).trans h1, (k2.cell (p := ⟨bx, 1, none⟩) h0 (fun h => Nat.lt_irrefl _ (hfp _ h))).trans h2, vr2, s2⟩
end


/-- The state when the two sets are asked: two boxes. -/
def Ask (bx bq : Nat) (p0 p1 q0 : Int) (w : World) (b R C : Nat) (In : Nat → Nat → Bool) (tot r : Nat) (L : Nat → Int × Int) (n : Nat) (W : World) : Prop :=
  PlayR bx p0 p1 w.heap.size w b R C In tot r L n W ∧ bq < W.heap.size ∧ W.cell? ⟨bq, 0, none⟩ = some (.int .i64 q0)
section
variable {bx bq : Nat} {p0 p1 q0 : Int} {w : World} {b R C : Nat} {In : Nat → Nat → Bool} {tot r : Nat} {L : Nat → Int × Int} {n : Nat} {W : World}
theorem Ask.s (h : Hid (Ask bx bq p0 p1 q0 w b R C In tot r L n W)) : W.cell? ⟨bx, 0, none⟩ = some (.int .i64 p0) ∧ W.cell? ⟨bq, 0, none⟩ = some (.int .i64 q0) :=
  ⟨h.out.1.choose_spec.2.1, h.out.2.2⟩
theorem Ask.keeps (h : Hid (Ask bx bq p0 p1 q0 w b R C In tot r L n W)) {W' : World} (hk : Keeps (fun _ => False) W W') : Hid (Ask bx bq p0 p1 q0 w b R C In tot r L n W') := by
  obtain ⟨⟨y, hp⟩, h1, h2⟩ := h.out
  exact ⟨⟨y, hp.keeps (Nat.le_refl _) hk⟩, Nat.lt_of_lt_of_le h1 hk.size, (hk.cell (p := ⟨bq, 0, none⟩) h1 (fun x => x)).trans h2⟩
theorem Ask.sr (h : Hid (Ask bx bq p0 p1 q0 w b R C In tot r L n W)) : ∃ y vr, SR w.heap.size y w W b R C In tot r vr L n := by
  obtain ⟨⟨y, _, _, _, vr, h3⟩, _⟩ := h.out
  exact ⟨y, vr, h3⟩
theorem Ask.len (h : Hid (Ask bx bq p0 p1 q0 w b R C In tot r L n W)) (i : Int) : Calls Tryd.prog 14 #[.pointer (some ⟨b, 0, none⟩), .int .i64 i] W fun e w2 => e = .returned (.int .i64 (cnt (rowP R In i) C : Nat)) ∧ Hid (Ask bx bq p0 p1 q0 w b R C In tot r L n w2) := by
  obtain ⟨y, vr, s⟩ := Ask.sr h
  refine (s.live.len i).mono ?_
  rintro e w2 ⟨rfl, rfl⟩
  exact ⟨rfl, h⟩
theorem Ask.inside (h : Hid (Ask bx bq p0 p1 q0 w b R C In tot r L n W)) (i o : Int) : Calls Tryd.prog 16 #[.pointer (some ⟨b, 0, none⟩), .int .i64 i, .int .i64 o] W fun e w2 => e = .returned (.bool (allIn (rowP R In i) (rowP R In o) C)) ∧ Hid (Ask bx bq p0 p1 q0 w b R C In tot r L n w2) := by
  obtain ⟨y, vr, s⟩ := Ask.sr h
  refine (s.live.inside i o).mono ?_
  rintro e w2 ⟨rfl, rfl⟩
  exact ⟨rfl, h⟩
theorem Ask.meets (h : Hid (Ask bx bq p0 p1 q0 w b R C In tot r L n W)) (i o : Int) : Calls Tryd.prog 18 #[.pointer (some ⟨b, 0, none⟩), .int .i64 i, .int .i64 o] W fun e w2 => e = .returned (.bool (anyIn (rowP R In i) (rowP R In o) C)) ∧ Hid (Ask bx bq p0 p1 q0 w b R C In tot r L n w2) := by
  obtain ⟨y, vr, s⟩ := Ask.sr h
  refine (s.live.meets i o).mono ?_
  rintro e w2 ⟨rfl, rfl⟩
  exact ⟨rfl, h⟩
theorem Ask.rinside (h : Hid (Ask bx bq p0 p1 q0 w b R C In tot r L n W)) (hl : Hid (Link R C In tot L n)) (hn : n ≤ 1000000000) (i o : Int) : Calls Tryd.prog 17 #[.pointer (some ⟨r, 0, none⟩), .int .i64 i, .int .i64 o] W fun e w2 => e = .returned (.bool (allIn (rowP R In i) (rowP R In o) C)) ∧ Hid (Ask bx bq p0 p1 q0 w b R C In tot r L n w2) := by
  obtain ⟨y, vr, s⟩ := Ask.sr h
  have := rfinside_spec s.ref hn i o
  rw [hl.out.inside] at this
  refine this.mono ?_
  rintro e w2 ⟨rfl, hb⟩
  exact ⟨rfl, Ask.keeps h (Keeps.of_below hb (Nat.le_refl _))⟩
theorem Ask.rmeets (h : Hid (Ask bx bq p0 p1 q0 w b R C In tot r L n W)) (hl : Hid (Link R C In tot L n)) (hn : n ≤ 1000000000) (i o : Int) : Calls Tryd.prog 19 #[.pointer (some ⟨r, 0, none⟩), .int .i64 i, .int .i64 o] W fun e w2 => e = .returned (.bool (anyIn (rowP R In i) (rowP R In o) C)) ∧ Hid (Ask bx bq p0 p1 q0 w b R C In tot r L n w2) := by
  obtain ⟨y, vr, s⟩ := Ask.sr h
  have := rfmeets_spec s.ref hn i o
  rw [hl.out.meets] at this
  refine this.mono ?_
  rintro e w2 ⟨rfl, hb⟩
  exact ⟨rfl, Ask.keeps h (Keeps.of_below hb (Nat.le_refl _))⟩
/-- The list of a row, as a call hands it over. -/
def RowOut (R C : Nat) (In : Nat → Nat → Bool) (i : Int) (ao : Option Addr) (cap : Nat) (W : World) : Prop := ReadsL W (.slice ao (cnt (rowP R In i) C) cap) (listTo (rowP R In i) C)
theorem listPost_out {e : Ending} {w' : World} {i : Int} (h : ListPost (listTo (rowP R In i) C) W e w') : ∃ ao cap, e = .returned (.slice ao (cnt (rowP R In i) C) cap) ∧ Hid (RowOut R C In i ao cap w') ∧ Keeps (fun _ => False) W w' := by
  obtain ⟨v, rfl, ho, hb⟩ := h
  have hr := ReadsL.of_own ho
  have hr' := hr
  obtain ⟨ao, cap, rfl, _⟩ := hr'
  rw [listTo_len] at hr ⊢
  exact ⟨ao, cap, rfl, hr, Keeps.of_below hb (Nat.le_refl _)⟩
theorem Ask.list (h : Hid (Ask bx bq p0 p1 q0 w b R C In tot r L n W)) (hT : Hid (TabIn w)) (i : Int) : Calls Tryd.prog 21 #[.pointer (some ⟨b, 0, none⟩), .int .i64 i] W fun e w2 => ∃ ao cap, e = .returned (.slice ao (cnt (rowP R In i) C) cap) ∧ Hid (Ask bx bq p0 p1 q0 w b R C In tot r L n w2) ∧ Hid (RowOut R C In i ao cap w2) := by
  obtain ⟨y, vr, s⟩ := Ask.sr h
  refine (s.list (hT.out.below s.base hT.out.lt) i).mono ?_
  intro e w2 hp
  obtain ⟨ao, cap, rfl, h1, h2⟩ := listPost_out hp
  exact ⟨ao, cap, rfl, Ask.keeps h h2, h1⟩
theorem Ask.rlist (h : Hid (Ask bx bq p0 p1 q0 w b R C In tot r L n W)) (hl : Hid (Link R C In tot L n)) (hn : n ≤ 1000000000) (i : Int) : Calls Tryd.prog 15 #[.pointer (some ⟨r, 0, none⟩), .int .i64 i] W fun e w2 => ∃ ao cap, e = .returned (.slice ao (cnt (rowP R In i) C) cap) ∧ Hid (Ask bx bq p0 p1 q0 w b R C In tot r L n w2) ∧ Hid (RowOut R C In i ao cap w2) ∧ Keeps (fun _ => False) W w2 := by
  obtain ⟨y, vr, s⟩ := Ask.sr h
  have := rflist_spec s.ref hn s.hC i
  rw [hl.out.row] at this
  refine this.mono ?_
  intro e w2 hp
  obtain ⟨ao, cap, rfl, h1, h2⟩ := listPost_out hp
  exact ⟨ao, cap, rfl, Ask.keeps h h2, h1, h2⟩
theorem Ask.rlist2 (h : Hid (Ask bx bq p0 p1 q0 w b R C In tot r L n W)) (hl : Hid (Link R C In tot L n)) (hn : n ≤ 1000000000) (i : Int) {ao1 : Option Addr} {cap1 : Nat} (h1 : Hid (RowOut R C In i ao1 cap1 W)) : Calls Tryd.prog 15 #[.pointer (some ⟨r, 0, none⟩), .int .i64 i] W fun e w2 => ∃ ao cap, e = .returned (.slice ao (cnt (rowP R In i) C) cap) ∧ Hid (Ask bx bq p0 p1 q0 w b R C In tot r L n w2) ∧ Hid (RowOut R C In i ao cap w2) ∧ Hid (RowOut R C In i ao1 cap1 w2) := by
  refine (Ask.rlist h hl hn i).mono ?_
  rintro e w2 ⟨ao, cap, rfl, h2, h3, hk⟩
  exact ⟨ao, cap, rfl, h2, h3, ReadsL.keeps h1.out hk⟩
theorem Ask.same (h : Hid (Ask bx bq p0 p1 q0 w b R C In tot r L n W)) {i : Int} {ao1 ao2 : Option Addr} {cap1 cap2 : Nat} (h1 : Hid (RowOut R C In i ao1 cap1 W)) (h2 : Hid (RowOut R C In i ao2 cap2 W)) : Calls Tryd.prog 20 #[.slice ao1 (cnt (rowP R In i) C) cap1, .slice ao2 (cnt (rowP R In i) C) cap2] W fun e w2 => e = .returned (.bool true) ∧ Hid (Ask bx bq p0 p1 q0 w b R C In tot r L n w2) := by
  obtain ⟨y, vr, s⟩ := Ask.sr h
  have hc := cnt_le (rowP R In i) C
  have hC := s.hC
  have hl : (listTo (rowP R In i) C).length ≤ 1000000 := by rw [listTo_len]; omega
  refine (same_spec h1.out h2.out hl hl).mono ?_
  rintro e w2 ⟨rfl, nq, rfl⟩
  exact ⟨by rw [decide_eq_true rfl], Ask.keeps h ((Keeps.refl _ _).drewN _)⟩
end

/-- The two sets, and no more. -/
def Two (w : World) (b R C : Nat) (In : Nat → Nat → Bool) (tot r : Nat) (L : Nat → Int × Int) (n : Nat) (W : World) : Prop := ∃ y vr, SR w.heap.size y w W b R C In tot r vr L n
section
variable {w : World} {b R C : Nat} {In : Nat → Nat → Bool} {tot r : Nat} {L : Nat → Int × Int} {n : Nat} {W : World}
theorem Two.keeps (h : Hid (Two w b R C In tot r L n W)) {W' : World} (hk : Keeps (fun _ => False) W W') : Hid (Two w b R C In tot r L n W') := by
  obtain ⟨y, vr, s⟩ := h.out
  exact ⟨y, vr, s.keeps (Nat.le_refl _) hk⟩
theorem Two.s (h : Hid (Two w b R C In tot r L n W)) : W.cell? ⟨r, 0, none⟩ = some (.int .i64 R) ∧ W.cell? ⟨r, 1, none⟩ = some (.int .i64 C) := by
  obtain ⟨y, vr, s⟩ := h.out
  have ho := s.ref.obj
  exact ⟨by rw [cell_of_heap ho]; rfl, by rw [cell_of_heap ho]; rfl⟩
theorem Two.rows (h : Hid (Two w b R C In tot r L n W)) : Calls Tryd.prog 22 #[.pointer (some ⟨b, 0, none⟩)] W fun e w2 => e = .returned (.int .i64 R) ∧ Hid (Two w b R C In tot r L n w2) := by
  obtain ⟨y, vr, s⟩ := h.out
  obtain ⟨bw, rb, m, _⟩ := s
  refine (frows_spec m).mono ?_
  rintro e w2 ⟨rfl, rfl⟩
  exact ⟨rfl, h⟩
theorem Two.cols (h : Hid (Two w b R C In tot r L n W)) : Calls Tryd.prog 23 #[.pointer (some ⟨b, 0, none⟩)] W fun e w2 => e = .returned (.int .i64 C) ∧ Hid (Two w b R C In tot r L n w2) := by
  obtain ⟨y, vr, s⟩ := h.out
  obtain ⟨bw, rb, m, _⟩ := s
  refine (fcols_spec m).mono ?_
  rintro e w2 ⟨rfl, rfl⟩
  exact ⟨rfl, h⟩
theorem Two.lives (h : Hid (Two w b R C In tot r L n W)) {K : Nat} (hl : Calls Tryd.prog K #[] W fun e w' => e = .returned (.bool true) ∧ Below W.heap.size W w') : Calls Tryd.prog K #[] W fun e w2 => e = .returned (.bool true) ∧ Hid (Two w b R C In tot r L n w2) := by
  refine hl.mono ?_
  rintro e w2 ⟨rfl, hb⟩
  exact ⟨rfl, Two.keeps h (Keeps.of_below hb (Nat.le_refl _))⟩
theorem Two.base (h : Hid (Two w b R C In tot r L n W)) : Below w.heap.size w W := by
  obtain ⟨y, vr, s⟩ := h.out
  exact s.base
end
end Go.Proofs.YtmljmpjpdgijlaaDoor
