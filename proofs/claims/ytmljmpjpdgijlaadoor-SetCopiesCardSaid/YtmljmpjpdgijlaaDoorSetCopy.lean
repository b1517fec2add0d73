/-
  Copy: a family that reads the same, in blocks of its own.
-/
import Derived.Test.YtmljmpjpdgijlaaDoorSetCopyInv
import Derived.Test.YtmljmpjpdgijlaaDoorSetCols
import Derived.Deep.RegionWith
import Derived.Deep.RegionHeld3
set_option linter.unusedVariables false
set_option linter.unusedSimpArgs false
set_option linter.unnecessarySimpa false
namespace Go.Proofs.YtmljmpjpdgijlaaDoor
open Go.ChangeShapes Go.WideShapes Go.ChangeAt Go.RowKit Go.Deep SetPlain
/-- A copy, as it is handed over: it reads the same, and lies past z. -/
def CopyOut (z : Nat) (b2 R C : Nat) (In : Nat → Nat → Bool) (tot : Nat) (W : World) : Prop :=
  ∃ bw2 rg2 rc2, FamRead W b2 bw2 rg2 rc2 R C In tot ∧ z ≤ b2 ∧ z ≤ bw2 ∧ (∀ i, i < R → z ≤ rg2 i)
section
variable {w : World} {b bw : Nat} {rb : Nat → Nat} {R C : Nat} {In : Nat → Nat → Bool} {tot : Nat}
theorem CopyInv.done {bo bwo : Nat} {w1 W : World} {z : Nat} (h : CopyInv bo bwo R C In R w1 W) (hz : z ≤ w1.heap.size) (hb : z ≤ bo) (hbw : z ≤ bwo) (ho : ∀ i c, C ≤ c → In i c = false) (hR : R ≤ 5000) (hC : C ≤ 1000) :
    CopyOut z bo R C In tot (W.setCell ⟨bo, 3, none⟩ (.int .i64 tot)) := by
  obtain ⟨hobj, ⟨F, hrows, hcl⟩, hkp, hlo, hlw, hne⟩ := h
  have ks := Keeps.setCell (S := fun i => i = bo) (Keeps.refl _ W) (p := ⟨bo, 3, none⟩) (fun _ => rfl) (.int .i64 tot)
  have o1 := heap_set hobj 3 (.int .i64 tot)
  have r1 := (ks.block bwo (lt_of_heap hrows) (fun e => hne e.symm)).trans hrows
  have hg : ∀ g, w1.heap.size ≤ g → ¬ g = bo := fun g hg e => by omega
  have hcl' : ∀ j, j < R → CloneAt w1.heap.size (wordsOf C) (In j) (F j) (W.setCell ⟨bo, 3, none⟩ (.int .i64 tot)) := fun j hj => (hcl j hj).keeps ks hg
  refine ⟨bwo, fun j => if h : j < R then (hcl' j h).choose else 0, fun j => if h : j < R then (hcl' j h).choose_spec.choose else 0, ⟨?_, ?_, ?_, ?_, fun i hi => ?_, fun i hi => ?_, fun i hi => ?_, fun i hi k hk => ?_, ho, hR, hC⟩, hb, hbw, fun i hi => ?_⟩
  · rw [cell_of_heap o1]; rfl
  · rw [cell_of_heap o1]; rfl
  · rw [cell_of_heap o1]; rfl
  · rw [cell_of_heap o1]; rfl
  · simp only [dif_pos hi]
    rw [cell_of_heap r1]
    have := (hcl' i hi).choose_spec.choose_spec.1
    rw [← this]
    exact fnRow_get _ _ _ hi
  · simp only [dif_pos hi]
    exact (hcl' i hi).choose_spec.choose_spec.2.1
  · simp only [dif_pos hi]
    exact (hcl' i hi).choose_spec.choose_spec.2.2.2.1
  · simp only [dif_pos hi]
    exact (hcl' i hi).choose_spec.choose_spec.2.2.2.2 k hk
  · simp only [dif_pos hi]
    exact Nat.le_trans hz (hcl' i hi).choose_spec.choose_spec.2.2.1

set_option maxRecDepth 100000 in
set_option maxHeartbeats 1600000 in
theorem fcopy_spec (h : FamMem w b bw rb R C In tot) : Calls Tryd.prog 25 #[.pointer (some ⟨b, 0, none⟩)] w fun e w' => e = .returned (.pointer (some ⟨w.heap.size, 0, none⟩)) ∧ CopyOut w.heap.size w.heap.size R C In tot w' ∧ Below w.heap.size w w' := by
  have HA := Lib.hid (frows_spec h)
  have HC := Lib.hid (fcols_spec h)
  have hR := h.hR
  have hC := h.hC
  have HN := Lib.hid (fnew_spec (R : Int) (C : Int) R C (by unfold Within; omega) (by unfold Within; omega) w)
  have H := Lib.hid h
  have hlt := Lib.hid h.lt
  clear h
  go_enter Tryd.func25, Tryd.ntmps25
  go_wp2_with fail
  refine HA.out.mono ?_
  rintro e w' ⟨rfl, rfl⟩
  go_wp2_with fail
  refine HC.out.mono ?_
  rintro e w' ⟨rfl, rfl⟩
  go_wp2_with fail
  refine HN.out.mono ?_
  rintro e w1 ⟨rfl, m1, hb1⟩
  have k1 : Keeps (fun _ => False) w w1 := Keeps.of_below hb1 (Nat.le_refl _)
  have hF1 := Lib.hid (H.out.keeps k1 (fun _ _ x => x))
  have hinv : CopyInv w.heap.size (w.heap.size + 1) R C In 0 w1 w1 := ⟨m1.obj, ⟨_, m1.rows, fun j hj => absurd hj (Nat.not_lt_zero _)⟩, Keeps.refl _ _, lt_of_heap m1.obj, lt_of_heap m1.rows, by omega⟩
  have HI := Lib.hid hinv
  have HB1 := Lib.hid hb1
  clear HA HC HN m1 hinv hb1
  go_wp2_with fail
  refine (frows_spec hF1.out).mono ?_
  rintro e w' ⟨rfl, rfl⟩
  go_wp2_with fail
  go_loopg [12] R (fun g s wr => ∃ k : Nat, k ≤ R ∧ g = R - k ∧ s = .int .i64 k ∧ Hid (CopyInv w.heap.size (w.heap.size + 1) R C In k w1 wr))
  case atStart => exact ⟨0, Nat.zero_le _, rfl, rfl, HI.out⟩
  case round =>
    clear HI
    obtain ⟨k, hk, rfl, rfl, hin⟩ := hrel
    have hF := Lib.hid (hF1.out.keeps hin.out.keeps (fun i hi e => by have := hlt.out i hi; omega))
    by_cases hltk : k < R
    · have hfo := hF.out
      have d2 : wr.cell? ⟨b, 2, none⟩ = some (.slice (some ⟨bw, 0, none⟩) R R) := by rw [cell_of_heap hfo.obj]; rfl
      have cr : wr.cell? ⟨bw, k, none⟩ = some (.slice (some ⟨rb k, 0, none⟩) (wordsOf C) (wordsOf C)) := by rw [cell_of_heap hfo.rows]; exact fnRow_get _ _ _ hltk
      have o2 : wr.cell? ⟨w.heap.size, 2, none⟩ = some (.slice (some ⟨w.heap.size + 1, 0, none⟩) R R) := by rw [cell_of_heap hin.out.obj]; rfl
      obtain ⟨F, hrF, _⟩ := hin.out.rows
      have hgl := lt_of_heap hrF
      have lb := hlt.out b (.inl rfl)
      have lbw := hlt.out bw (.inr (.inl rfl))
      have hkI : (k : Int) < (R : Int) := by omega
      have hS : ∀ W', Keeps (fun i => i = w.heap.size + 1) wr W' → W'.cell? ⟨w.heap.size, 2, none⟩ = some (.slice (some ⟨w.heap.size + 1, 0, none⟩) R R) ∧ W'.cell? ⟨b, 2, none⟩ = some (.slice (some ⟨bw, 0, none⟩) R R) ∧ W'.cell? ⟨bw, k, none⟩ = some (.slice (some ⟨rb k, 0, none⟩) (wordsOf C) (wordsOf C)) := fun W' hk' =>
        ⟨(hk'.cell (p := ⟨w.heap.size, 2, none⟩) (by show w.heap.size < _; omega) (by show ¬ w.heap.size = w.heap.size + 1; omega)).trans o2, (hk'.cell (p := ⟨b, 2, none⟩) (by show b < _; omega) (by show ¬ b = w.heap.size + 1; omega)).trans d2, (hk'.cell (p := ⟨bw, k, none⟩) (by show bw < _; omega) (by show ¬ bw = w.heap.size + 1; omega)).trans cr⟩
      have CL : Hid (∀ W, Keeps (fun _ => False) wr W → Calls Tryd.prog 38 #[.slice (some ⟨rb k, 0, none⟩) (wordsOf C) (wordsOf C)] W fun e w' => ∃ g cp, e = .returned (.slice (some ⟨g, 0, none⟩) (wordsOf C) cp) ∧ (w'.cell? ⟨w.heap.size, 2, none⟩ = some (.slice (some ⟨w.heap.size + 1, 0, none⟩) R R) ∧ w'.cell? ⟨b, 2, none⟩ = some (.slice (some ⟨bw, 0, none⟩) R R) ∧ w'.cell? ⟨bw, k, none⟩ = some (.slice (some ⟨rb k, 0, none⟩) (wordsOf C) (wordsOf C))) ∧ w'.cell? ⟨w.heap.size + 1, k, none⟩ = some (F k) ∧ w'.frozen? ⟨w.heap.size + 1, k, none⟩ = false ∧ ((w'.setCell ⟨w.heap.size + 1, k, none⟩ (.slice (some ⟨g, 0, none⟩) (wordsOf C) cp)).cell? ⟨w.heap.size, 2, none⟩ = some (.slice (some ⟨w.heap.size + 1, 0, none⟩) R R) ∧ (w'.setCell ⟨w.heap.size + 1, k, none⟩ (.slice (some ⟨g, 0, none⟩) (wordsOf C) cp)).cell? ⟨b, 2, none⟩ = some (.slice (some ⟨bw, 0, none⟩) R R) ∧ (w'.setCell ⟨w.heap.size + 1, k, none⟩ (.slice (some ⟨g, 0, none⟩) (wordsOf C) cp)).cell? ⟨bw, k, none⟩ = some (.slice (some ⟨rb k, 0, none⟩) (wordsOf C) (wordsOf C))) ∧ Hid (CopyInv w.heap.size (w.heap.size + 1) R C In (k + 1) w1 (w'.setCell ⟨w.heap.size + 1, k, none⟩ (.slice (some ⟨g, 0, none⟩) (wordsOf C) cp)))) := fun W hW => by
        have hfw := hF.out.keeps hW (fun _ _ x => x)
        refine (clone64 W (rb k) (wordsOf C) (wordsOf C) (fun j => (wordOf (In k) j : Nat)) (by unfold wordsOf; omega) (fun j hj => by rw [cell_of_heap (hfw.row k hltk)]; exact fnRow_get _ _ _ hj)).mono ?_
        rintro e w' ⟨v', rfl, hown, hnn, hb⟩
        have kc : Keeps (fun _ => False) wr w' := hW.trans (Keeps.of_below hb (Nat.le_refl _))
        have h1 := (kc.block (w.heap.size + 1) hgl (fun x => x)).trans hrF
        have hz1 : w1.heap.size ≤ W.heap.size := Nat.le_trans hin.out.keeps.size hW.size
        have ks := Keeps.setCell (S := fun i => i = w.heap.size + 1) (Keeps.refl _ w') (p := ⟨w.heap.size + 1, k, none⟩) (fun _ => rfl) v'
        have kc' : Keeps (fun i => i = w.heap.size + 1) wr w' := kc.mono (fun _ _ x => x.elim)
        have hcl := CloneAt.of_own hz1 hown hnn
        obtain ⟨g, cp, hv, _⟩ := hcl
        subst hv
        exact ⟨g, cp, rfl, hS _ kc', by rw [cell_of_heap h1]; exact fnRow_get _ _ _ hltk, free_of_heap h1 k, hS _ (kc'.trans ks), hin.out.step hltk kc (CloneAt.of_own hz1 hown hnn)⟩
      have hS0 := hS wr.drew ((Keeps.refl _ _).drew)
      clear hfo hrF hS d2 cr o2
      go_upto_region 5 with fail
      go_region_held3 (fun w' => w'.cell? ⟨w.heap.size, 2, none⟩ = some (.slice (some ⟨w.heap.size + 1, 0, none⟩) R R) ∧ w'.cell? ⟨b, 2, none⟩ = some (.slice (some ⟨bw, 0, none⟩) R R) ∧ w'.cell? ⟨bw, k, none⟩ = some (.slice (some ⟨rb k, 0, none⟩) (wordsOf C) (wordsOf C))) (first | exact hS0 | assumption) (first | (go_at_call 38; refine (CL.out _ ((Keeps.refl _ _).drew)).mono ?_; rintro e w' ⟨g', cp', rfl, hS1, x1, f1, hS2, hinv'⟩))
      go_wp2_with fail
      go_roundg (R - (k + 1))
      case measure => omega
      case rel => exact ⟨k + 1, by omega, rfl, by go_num, by assumption⟩
    · obtain rfl : k = R := by omega
      have hio := hin.out
      have ho := H.out.out
      have x3 : wr.cell? ⟨w.heap.size, 3, none⟩ = some (.int .i64 (0 : Nat)) := by rw [cell_of_heap hio.obj]; rfl
      have f3 := free_of_heap hio.obj 3
      have lz := lt_of_heap hio.obj
      have TT : Hid (∀ W, Keeps (fun _ => False) wr W → Calls Tryd.prog 13 #[.pointer (some ⟨b, 0, none⟩)] W fun e w' => e = .returned (.int .i64 tot) ∧ W = w') := fun W hW => ftotal_spec (hF.out.keeps hW (fun _ _ x => x))
      have hdr : CopyInv w.heap.size (w.heap.size + 1) k C In k w1 wr.drew := ⟨hio.obj, hio.rows, hio.keeps.drew, hio.lo, hio.lw, hio.ne⟩
      have HOUT := Lib.hid (hdr.done (tot := tot) (z := w.heap.size) HB1.out.size (Nat.le_refl _) (by omega) ho hR hC)
      have HBW : Hid (Below w.heap.size w wr) := HB1.out.trans (hio.keeps.below HB1.out.size (fun i hi e => by omega))
      clear hio ho hdr
      go_upto_region 7 with fail
      go_region_held3 (fun _ => True) (trivial) (first | (go_at_call 13; refine (TT.out _ ((Keeps.refl _ _).drew)).mono ?_; rintro e w' ⟨rfl, rfl⟩))
      go_wp2_with fail
      go_ret
      exact ⟨rfl, HOUT.out, HBW.out.drew.setCell (by simp) _⟩
end
end Go.Proofs.YtmljmpjpdgijlaaDoor
