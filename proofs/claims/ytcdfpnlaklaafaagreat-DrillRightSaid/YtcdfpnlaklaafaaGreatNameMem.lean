/-
  Rows of texts, and tables, in memory; New, Len, At, All.
-/
import Derived.Test.YtcdfpnlaklaafaaGreatNameSort
import Derived.WalkLawsBesides
import Derived.Deep.QuietTactic
import Derived.BigQuiet
import Derived.Lib.Hide
import Derived.Deep.LoopGhost
import Derived.Deep.DeepCutAuto
import Derived.Laws.Cover1
import Derived.Laws.Concat
set_option linter.unusedVariables false
set_option linter.unusedSimpArgs false
set_option linter.unnecessarySimpa false
namespace Go.Proofs.YtcdfpnlaklaafaaGreat
open Go.ChangeShapes Go.WideShapes Go.ChangeAt Go.RowKit Go.Deep
theorem sinfo : (Tryz.prog.info? 9).map (fun i => (i.zero, i.size, i.bytes)) = some (some (.string ⟨#[]⟩), 1, 16) := by kernel_rfl
theorem enc_str (s : ByteArray) : Value.string s = encStr s.data.toList := by
  obtain ⟨⟨l⟩⟩ := s
  rfl
/-- A slice that reads as texts. -/
def ReadsS (w : World) (v : Value) (l : List Str) : Prop :=
  ∃ ao cap, v = .slice ao l.length cap ∧ l.length ≤ cap ∧ (0 < l.length → ∃ g off, ao = some ⟨g, off, none⟩ ∧ g < w.heap.size ∧ ∀ (j : Nat) (x : Str), l[j]? = some x → w.cell? ⟨g, off + j, none⟩ = some (encStr x))
theorem ReadsS.keeps {w w' : World} {v : Value} {l : List Str} (h : ReadsS w v l) (hk : Keeps (fun _ => False) w w') : ReadsS w' v l := by
  obtain ⟨ao, cap, hv, hle, hr⟩ := h
  refine ⟨ao, cap, hv, hle, fun h0 => ?_⟩
  obtain ⟨g, off, h1, h2, h3⟩ := hr h0
  exact ⟨g, off, h1, Nat.lt_of_lt_of_le h2 hk.size, fun j x hj => (hk.cell (p := ⟨g, off + j, none⟩) h2 (fun x => x)).trans (h3 j x hj)⟩
def sCells (l : List Str) : List Value := l.map encStr
theorem sCells_snoc (l : List Str) (x : Str) : sCells (l ++ [x]) = sCells l ++ [encStr x] := by simp [sCells]
/-- A row of texts of the program's own. -/
def OwnS (base : Nat) (W : World) (v : Value) (l : List Str) : Prop := W.ownsRow base 9 1 v l.length (sCells l)
theorem OwnS.reads {base : Nat} {W : World} {v : Value} {l : List Str} (h : OwnS base W v l) : ReadsS W v l := by
  obtain ⟨ao, cap, rfl, hle, _, hno, hc⟩ := own_form h
  refine ⟨ao, cap, rfl, hle, fun h0 => ?_⟩
  cases ao with
  | none => have := (hno rfl).1; omega
  | some b =>
    obtain ⟨q1, q2, q3, q4, q5⟩ := hc b rfl
    obtain ⟨b, o, sp⟩ := b
    simp only at q1 q2 q3 q4 q5
    subst q1 q2
    exact ⟨b, 0, rfl, q3, fun j x hj => by rw [Nat.zero_add]; exact q5 j _ (by unfold sCells; rw [List.getElem?_map, hj]; rfl)⟩
theorem OwnS.keeps {base : Nat} {W W' : World} {v : Value} {l : List Str} (h : OwnS base W v l) (hk : Keeps (fun _ => False) W W') : OwnS base W' v l := ownsRow_keeps' h hk (fun _ _ x => x)
theorem sholds_own {w : World} {base g cap : Nat} {l : List Str} (h : w.ownsRow base 9 1 (.slice (some ⟨g, 0, none⟩) l.length cap) l.length (sCells l)) : Go.Sort.Holds encStr w g 0 l.toArray := by
  intro j hj
  have hj' : j < l.length := by simpa using hj
  obtain ⟨hl, h | ⟨g', cap', cur, hv, _, hh, _, _, hs, ht⟩⟩ := h
  · cases h.1
  · simp only [Value.slice.injEq, Option.some.injEq, Addr.mk.injEq, and_true] at hv
    obtain ⟨rfl, _, _⟩ := hv
    rw [Nat.zero_add]
    refine ⟨?_, free_of_heap hh j⟩
    rw [cell_of_heap hh]
    have e : (cur.toList.take (l.length * 1))[j]? = (sCells l)[j]? := by rw [ht]
    unfold sCells at e
    rw [List.getElem?_take_of_lt (by omega), Array.getElem?_toList, List.getElem?_map, List.getElem?_eq_getElem hj'] at e
    rw [e, getElem!_pos l.toArray j hj]
    simp
/-- A table of texts. -/
def Tab (W : World) (p : Nat) (L : List Str) : Prop := ∃ v, W.cell? ⟨p, 0, none⟩ = some v ∧ p < W.heap.size ∧ ReadsS W v L
theorem Tab.keeps {W W' : World} {p : Nat} {L : List Str} (h : Tab W p L) (hk : Keeps (fun _ => False) W W') : Tab W' p L := by
  obtain ⟨v, h1, h2, h3⟩ := h
  exact ⟨v, (hk.cell (p := ⟨p, 0, none⟩) h2 (fun x => x)).trans h1, Nat.lt_of_lt_of_le h2 hk.size, h3.keeps hk⟩
set_option maxRecDepth 100000
set_option maxHeartbeats 3200000
/-- The clone of a row. -/
theorem sclone_spec {W : World} {v : Value} {l : List Str} (h : ReadsS W v l) (hl : l.length ≤ 100000) :
    Calls Tryz.prog 54 #[v] W fun e W' => ∃ v', e = .returned v' ∧ Hid (Keeps (fun _ => False) W W' ∧ OwnS W.heap.size W' v' l) := by
  obtain ⟨ao, cap, rfl, hle, hr⟩ := h
  rcases Nat.eq_zero_or_pos l.length with h0 | h0
  · have hl0 := List.eq_nil_of_length_eq_zero h0
    subst hl0
    cases ao with
    | none =>
      refine (Any.slices_Clone_string_nil scloneLays 0 cap W).mono ?_
      rintro e W' ⟨rfl, rfl⟩
      exact ⟨_, rfl, Keeps.refl _ _, World.ownsRow_nil _ _ _ _⟩
    | some a =>
      refine (Any.slices_Clone_string_zero scloneLays a cap W).mono ?_
      rintro e W' ⟨v', rfl, ho, _, hb⟩
      exact ⟨_, rfl, Keeps.of_below hb (Nat.le_refl _), ho⟩
  · obtain ⟨g, off, rfl, hg, hc⟩ := hr h0
    refine (Any.slices_Clone_string scloneLays g off l.length cap (l.map fun s => (⟨s.toArray⟩ : ByteArray)) W (by simp) (by omega) (fun j hj => ?_)).mono ?_
    · have hj' : j < l.length := by simpa using hj
      have e : (l.map fun s => (⟨s.toArray⟩ : ByteArray)).getD j ByteArray.empty = ⟨l[j].toArray⟩ := by
        rw [List.getD_eq_getElem?_getD, List.getElem?_map, List.getElem?_eq_getElem hj']
        rfl
      rw [hc j _ (List.getElem?_eq_getElem hj'), e]
    · rintro e W' ⟨v', rfl, ho, _, hb⟩
      refine ⟨_, rfl, Keeps.of_below hb (Nat.le_refl _), ?_⟩
      have e : ((l.map fun s => (⟨s.toArray⟩ : ByteArray)).take l.length).map Value.string = sCells l := by
        rw [List.take_of_length_le (by simp), List.map_map]
        rfl
      rw [e] at ho
      exact ho
end Go.Proofs.YtcdfpnlaklaafaaGreat
