/-
  The document's example of layer 8: true.
-/
import Derived.Test.YtckjgefpelnkoaaDoorSemMod
set_option linter.unusedVariables false
set_option linter.unusedSimpArgs false
set_option linter.unnecessarySimpa false
namespace Go.Proofs.YtckjgefpelnkoaaDoor
open Go.ChangeShapes Go.WideShapes Go.ChangeAt Go.RowKit Go.Deep SetPlain
def exRules : List Rl := [⟨2, 0, 0, 3, 0, 0⟩, ⟨1, 3, 2, 0, 0, 0⟩]
theorem exFilter : exRules.filter (fun r => rightB (3 : Nat) (2 : Nat) r) = exRules := by decide
theorem exDer {i c : Nat} (d : Der 2 exRules i c) : c = 2 ∧ (i = 0 ∨ i = 3) := by
  induction d with
  | mem r h1 h2 =>
    unfold exRules at h1
    simp only [List.mem_cons, List.not_mem_nil, or_false] at h1
    rcases h1 with rfl | rfl
    · simp at h2
    · exact ⟨rfl, .inr rfl⟩
  | incl r c h1 h2 _ ih =>
    unfold exRules at h1
    simp only [List.mem_cons, List.not_mem_nil, or_false] at h1
    rcases h1 with rfl | rfl
    · exact ⟨ih.1, .inl rfl⟩
    · simp at h2
  | link r x c h1 h2 _ _ _ _ =>
    unfold exRules at h1
    simp only [List.mem_cons, List.not_mem_nil, or_false] at h1
    rcases h1 with rfl | rfl <;> simp at h2
  | both r c h1 h2 _ _ _ _ =>
    unfold exRules at h1
    simp only [List.mem_cons, List.not_mem_nil, or_false] at h1
    rcases h1 with rfl | rfl <;> simp at h2
theorem exIn {In : Nat → Nat → Bool} (h : ∀ i c, In i c = true ↔ Der 2 exRules i c) : In 0 = fun c => decide (c = 2) := by
  funext c
  have hd : Der 2 exRules 0 2 := .incl ⟨2, 0, 0, 3, 0, 0⟩ 2 (by decide) rfl (.mem ⟨1, 3, 2, 0, 0, 0⟩ (by decide) rfl)
  by_cases hc : c = 2
  · subst hc
    rw [(h 0 2).2 hd]; rfl
  · cases hb : In 0 c with
    | true => exact absurd (exDer ((h 0 c).1 hb)).1 hc
    | false => simp [hc]
def ExObj : Obj := .cells #[.int .i64 2, .int .i64 0, .int .i64 0, .int .i64 3, .int .i64 0, .int .i64 0, .int .i64 1, .int .i64 3, .int .i64 2, .int .i64 0, .int .i64 0, .int .i64 0] 25
theorem exRow (w : World) : RuleRow (w.alloc ExObj) (some ⟨w.heap.size, 0, none⟩) exRules := fun _ => by
  refine ⟨w.heap.size, 0, rfl, by simp, fun i r h => ?_⟩
  unfold exRules at h
  unfold ExObj
  match i, h with
  | 0, h =>
    simp only [List.getElem?_cons_zero, Option.some.injEq] at h
    subst h
    refine ⟨?_, ?_, ?_, ?_, ?_, ?_⟩ <;> simp
  | 1, h =>
    simp only [List.getElem?_cons_succ, List.getElem?_cons_zero, Option.some.injEq] at h
    subst h
    refine ⟨?_, ?_, ?_, ?_, ?_, ?_⟩ <;> simp
def SemLivesPost (w : World) (e : Ending) (w' : World) : Prop := e = .returned (.bool true) ∧ Below w.heap.size w w'
set_option maxRecDepth 100000 in
set_option maxHeartbeats 1600000 in
theorem slives_any (w : World) (hT : TabIn w) : Calls Tryd.prog 6 #[] w (SemLivesPost w) := by
  have hk0 : Keeps (fun _ => False) w (w.alloc ExObj) := (Keeps.refl _ _).alloc _
  have hT1 : TabIn (w.alloc ExObj) := hT.keeps hk0 (fun x => x)
  have H0 := Lib.hid (seval_spec 3 2 3 2 (.inr (.inl ⟨by decide, by decide, rfl⟩)) (.inr (.inl ⟨by decide, by decide, rfl⟩)) exRules (by decide) (some ⟨w.heap.size, 0, none⟩) 2 (w.alloc ExObj) (exRow w) (by decide) hT1)
  have HT := Lib.hid hT1
  unfold ExObj at *
  rw [show exRules.length = 2 from rfl] at H0
  clear hk0 hT hT1
  go_enter Tryd.func6, Tryd.ntmps6
  go_wp2_with fail
  refine H0.out.mono ?_
  rintro e w1 ⟨mo, rfl, hl⟩
  obtain ⟨fb, bw, rb, In, tot, steps, hm⟩ := hl.out
  have htl := hm.tells
  rw [exFilter] at htl
  have hin := exIn htl
  have hls : 2 ≤ steps := by have := hm.least; rw [exFilter] at this; exact this
  have A1 : Hid (Calls Tryd.prog 9 #[.pointer (some ⟨mo, 0, none⟩), .int .i64 0, .int .i64 2] w1 fun e W' => e = .returned (.bool true) ∧ w1 = W') := by
    have := hm.in_spec 0 2 (by decide) (by decide)
    have e1 : hasB (3 * 2) 3 In 0 2 = true := by
      show (true && In 0 2) = true
      rw [hin]; rfl
    rw [e1] at this
    exact this
  have A2 : Hid (Calls Tryd.prog 9 #[.pointer (some ⟨mo, 0, none⟩), .int .i64 0, .int .i64 1] w1 fun e W' => e = .returned (.bool false) ∧ w1 = W') := by
    have := hm.in_spec 0 1 (by decide) (by decide)
    have e1 : hasB (3 * 2) 3 In 0 1 = false := by
      show (true && In 0 1) = false
      rw [hin]; rfl
    rw [e1] at this
    exact this
  have hT1 : TabIn w1 := HT.out.below hm.base HT.out.lt
  have A3 : Hid (Calls Tryd.prog 12 #[.pointer (some ⟨mo, 0, none⟩), .int .i64 0] w1 (ListPost [2] w1)) := by
    have := hm.list_spec hT1 0
    have e1 : listTo (rowP (3 * 2) In 0) 3 = [2] := by
      show listTo (In 0) 3 = [2]
      rw [hin]; rfl
    rw [e1] at this
    exact this
  have HM := Lib.hid hm
  clear hm htl hin hT1 hl H0
  have hst : (0 : Int) < (steps : Int) := by omega
  go_wp2_with fail
  refine A1.out.mono ?_
  rintro e w2 ⟨rfl, rfl⟩
  clear A1
  go_wp2_with fail
  refine A2.out.mono ?_
  rintro e w2 ⟨rfl, rfl⟩
  clear A2
  go_wp2_with fail
  refine A3.out.mono ?_
  rintro e w2 ⟨v, rfl, hown, hb⟩
  obtain ⟨ao, cap, rfl, _, _, _, _⟩ := own_form hown
  have hm2 := HM.out.keeps (Nat.le_refl _) (Keeps.of_below hb (Nat.le_refl _))
  have A4 := Lib.hid hm2.steps_spec
  have hbase := hm2.base
  have HB : Hid (Below w.heap.size w w2) := by
    refine (Below.alloc (Below.refl _ _) (Nat.le_refl _) _).trans ((Keeps.of_below (S := fun _ => False) hbase (Nat.le_refl _)).below (by simp) (fun _ _ x => x))
  clear hm2 hbase hown hb HM A3 HT
  go_wp2_with fail
  refine A4.out.mono ?_
  rintro e w3 ⟨rfl, rfl⟩
  clear A4
  go_wp2_with fail
  go_ret
  exact ⟨by show Ending.returned (.bool (decide (0 < steps))) = _; rw [decide_eq_true (show 0 < steps by omega)], HB.out⟩
end Go.Proofs.YtckjgefpelnkoaaDoor
