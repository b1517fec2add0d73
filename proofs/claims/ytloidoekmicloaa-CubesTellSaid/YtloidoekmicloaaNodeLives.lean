/-
  The document's example of a table of nodes: as it says.
-/
import Derived.Test.YtloidoekmicloaaNodeNew
import Derived.Test.YtloidoekmicloaaNodeMake
import Derived.Test.YtloidoekmicloaaNodeAt
set_option linter.unusedVariables false
set_option linter.unusedSimpArgs false
namespace Go.Proofs.Ytloidoekmicloaa
open Go.ChangeShapes Go.WideShapes Go.ChangeAt Go.RowKit Go.Deep NodePlain

/-- What New answers, as a whole table. -/
def NewAll (V B : Int) (w : World) (e : Ending) (w' : World) : Prop :=
  e = .returned (.pointer (some ⟨w.heap.size, 0, none⟩)) ∧ TabAll w' w.heap.size (w.heap.size + 1) 16 (.slice none 0 0) V B (fun _ => default) 0 (fun _ => 0) false ∧ Below w.heap.size w w'
theorem newAll (vars budget V B : Int) (hV : (vars ≤ 0 ∧ V = 0) ∨ (0 < vars ∧ vars ≤ 61 ∧ V = vars) ∨ (61 < vars ∧ V = 61)) (hB : (budget ≤ 0 ∧ B = 0) ∨ (0 < budget ∧ B = budget)) (w : World) :
    Calls Try.prog 24 #[.int .i64 vars, .int .i64 budget] w (NewAll V B w) := by
  refine (nodeNew_any vars budget V B hV hB w).mono ?_
  rintro e w' ⟨rfl, h, hb⟩
  exact ⟨rfl, ⟨h, NodePlain.Good.zero _ _, Placed.empty _ _ _ (by omega), by omega, by omega, by omega⟩, hb⟩

def LivesPost (w : World) (e : Ending) (w' : World) : Prop := e = .returned (.bool true) ∧ Below w.heap.size w w'

theorem liveRes0 : resN 3 9 (fun _ => default) 0 0 0 1 = .new := rfl
theorem liveRes1 : resN 3 9 (addN (fun _ => default) 0 (0, 0, 1)) 1 0 0 1 = .old 0 := rfl
theorem liveAt1 : (isN 1 2 && ev (addN (fun _ => default) 0 (0, 0, 1)) (Nat.testBit 1) 2) = true := by decide
theorem liveAt2 : (isN 1 2 && ev (addN (fun _ => default) 0 (0, 0, 1)) (Nat.testBit 2) 2) = false := by decide

/-- A table that lies in memory laid after z alone. -/
def LiveTab (z : Nat) (w : World) (b : Nat) (V B : Int) (L : Nat → Nd) (n : Nat) (s : Bool) (w' : World) : Prop :=
  ∃ (bp M : Nat) (vn : Value) (P : Nat → Nat), TabAll w' b bp M vn V B L n P s ∧ Below z w w' ∧ ∀ k, tabFp b bp vn k → z ≤ k
theorem LiveTab.below {z : Nat} {w w1 w2 : World} {b : Nat} {V B : Int} {L : Nat → Nd} {n : Nat} {s : Bool} (h : LiveTab z w b V B L n s w1) (hb : Below w1.heap.size w1 w2) (hz : z ≤ w1.heap.size) : LiveTab z w b V B L n s w2 := by
  obtain ⟨bp, M, vn, P, t, b0, f⟩ := h
  exact ⟨bp, M, vn, P, t.keeps (Keeps.of_below (S := fun _ => False) hb (Nat.le_refl _)) (fun _ _ x => x), b0.trans ((Keeps.of_below (S := fun _ => False) hb (Nat.le_refl _)).below hz (fun _ _ x => x)), f⟩
theorem LiveTab.make {z : Nat} {w w1 : World} {b : Nat} {V B : Int} {L : Nat → Nd} {n : Nat} {s : Bool} (h : LiveTab z w b V B L n s w1) (hz : z ≤ w1.heap.size) (hn : n ≤ 1000000000) (v lo hi : Int) (hv0 : -9223372036854775808 ≤ v) (hv1 : v ≤ 9223372036854775807) (hl0 : -9223372036854775808 ≤ lo) (hl1 : lo ≤ 9223372036854775807) (hh0 : -9223372036854775808 ≤ hi) (hh1 : hi ≤ 9223372036854775807) :
    Calls Try.prog 66 #[.pointer (some ⟨b, 0, none⟩), .int .i64 v, .int .i64 lo, .int .i64 hi] w1 fun e w2 =>
      e = .returned (.tuple #[.int .i64 ((resN V B L n v lo hi).num n lo), .int .i64 (resN V B L n v lo hi).err]) ∧ LiveTab z w b V B ((resN V B L n v lo hi).nodes L n (v, lo, hi)) ((resN V B L n v lo hi).len n) ((resN V B L n v lo hi).out s) w2 := by
  obtain ⟨bp, M, vn, P, t, b0, f⟩ := h
  refine (tmake_spec t hn v lo hi hv0 hv1 hl0 hl1 hh0 hh1).mono ?_
  rintro e w2 ⟨rfl, bp2, M2, vn2, P2, t2, k2, f2⟩
  refine ⟨rfl, bp2, M2, vn2, P2, t2, b0.trans (k2.below hz (fun k hk hs => by have := f k hs; omega)), fun k hk => ?_⟩
  rcases f2 k hk with h | h
  · exact f k h
  · exact Nat.le_trans hz h
theorem LiveTab.at {z : Nat} {w w1 : World} {b : Nat} {V B : Int} {L : Nat → Nd} {n : Nat} {s : Bool} (h : LiveTab z w b V B L n s w1) (hz : z ≤ w1.heap.size) (hV : V ≤ 61) (hn : n ≤ 1000000000000) (k : Int) (hk0 : -9223372036854775808 ≤ k) (hk : k ≤ 9223372036854775807) (X : Nat) (hX : X < 18446744073709551616) :
    Calls Try.prog 42 #[.pointer (some ⟨b, 0, none⟩), .int .i64 k, .int .u64 X] w1 fun e w2 => e = .returned (.bool (isN n k && ev L X.testBit k)) ∧ LiveTab z w b V B L n s w2 := by
  have h' := h
  obtain ⟨bp, M, vn, P, t, b0, f⟩ := h
  refine (tat_spec t.mem t.good hV hn k hk0 hk X hX).mono ?_
  rintro e w2 ⟨rfl, hb⟩
  exact ⟨rfl, h'.below hb hz⟩
theorem LiveTab.len {z : Nat} {w w1 : World} {b : Nat} {V B : Int} {L : Nat → Nd} {n : Nat} {s : Bool} (h : LiveTab z w b V B L n s w1) (hn : n ≤ 1000000000000) :
    Calls Try.prog 71 #[.pointer (some ⟨b, 0, none⟩)] w1 fun e w2 => e = .returned (.int .i64 n) ∧ w1 = w2 := by
  obtain ⟨bp, M, vn, P, t, b0, f⟩ := h
  exact tlen_spec t.mem hn
theorem LiveTab.size {z : Nat} {w w1 : World} {b : Nat} {V B : Int} {L : Nat → Nd} {n : Nat} {s : Bool} (h : LiveTab z w b V B L n s w1) (hz : z ≤ w.heap.size) : z ≤ w1.heap.size := by
  obtain ⟨bp, M, vn, P, t, b0, f⟩ := h
  exact Nat.le_trans hz b0.size
theorem newLive (vars budget V B : Int) (hV : (vars ≤ 0 ∧ V = 0) ∨ (0 < vars ∧ vars ≤ 61 ∧ V = vars) ∨ (61 < vars ∧ V = 61)) (hB : (budget ≤ 0 ∧ B = 0) ∨ (0 < budget ∧ B = budget)) (w : World) :
    Calls Try.prog 24 #[.int .i64 vars, .int .i64 budget] w fun e w' => e = .returned (.pointer (some ⟨w.heap.size, 0, none⟩)) ∧ LiveTab w.heap.size w w.heap.size V B (fun _ => default) 0 false w' := by
  refine (newAll vars budget V B hV hB w).mono ?_
  rintro e w' ⟨rfl, t, hb⟩
  refine ⟨rfl, _, _, _, _, t, hb, fun k hk => ?_⟩
  rcases hk with h | h | h
  · omega
  · omega
  · simp [Value.ownBlock] at h

end Go.Proofs.Ytloidoekmicloaa
