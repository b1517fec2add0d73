/-
  The document's Inside and Meets.
-/
import Derived.Test.YtmljmpjpdgijlaaDoorSetRef
set_option linter.unusedVariables false
set_option linter.unusedSimpArgs false
set_option linter.unnecessarySimpa false
namespace Go.Proofs.YtmljmpjpdgijlaaDoor
open Go.ChangeShapes Go.WideShapes Go.ChangeAt Go.RowKit Go.Deep SetPlain

def insTo (L : Nat → Int × Int) (n : Nat) (i o : Int) : Nat → Bool
  | 0 => true
  | k + 1 => insTo L n i o k && (!decide ((L k).1 = i) || pB L (o, (L k).2) n)
def metTo (L : Nat → Int × Int) (n : Nat) (i o : Int) : Nat → Bool
  | 0 => false
  | k + 1 => metTo L n i o k || (decide ((L k).1 = i) && pB L (o, (L k).2) n)
theorem insTo_iff (L : Nat → Int × Int) (n : Nat) (i o : Int) : ∀ k, insTo L n i o k = true ↔ ∀ j, j < k → (L j).1 = i → pB L (o, (L j).2) n = true
  | 0 => ⟨fun _ j h => absurd h (Nat.not_lt_zero _), fun _ => rfl⟩
  | k + 1 => by
    unfold insTo
    rw [Bool.and_eq_true, insTo_iff L n i o k]
    constructor
    · rintro ⟨h1, h2⟩ j hj hi
      rcases Nat.lt_or_ge j k with h | h
      · exact h1 j h hi
      · obtain rfl : j = k := by omega
        simpa [hi] using h2
    · intro h
      refine ⟨fun j hj => h j (by omega), ?_⟩
      by_cases hi : (L k).1 = i
      · simp [h k (by omega) hi]
      · simp [hi]
theorem metTo_iff (L : Nat → Int × Int) (n : Nat) (i o : Int) : ∀ k, metTo L n i o k = true ↔ ∃ j, j < k ∧ (L j).1 = i ∧ pB L (o, (L j).2) n = true
  | 0 => ⟨fun h => (by cases h), fun ⟨j, h, _⟩ => absurd h (Nat.not_lt_zero _)⟩
  | k + 1 => by
    unfold metTo
    rw [Bool.or_eq_true, metTo_iff L n i o k, Bool.and_eq_true, decide_eq_true_eq]
    constructor
    · rintro (⟨j, h1, h2⟩ | h)
      · exact ⟨j, by omega, h2⟩
      · exact ⟨k, by omega, h⟩
    · rintro ⟨j, h1, h2, h3⟩
      rcases Nat.lt_or_ge j k with h | h
      · exact .inl ⟨j, h, h2, h3⟩
      · obtain rfl : j = k := by omega
        exact .inr ⟨h2, h3⟩

section
variable {w : World} {r : Nat} {R C : Nat} {L : Nat → Int × Int} {n : Nat} {vn : Value}

set_option maxRecDepth 10000 in
set_option maxHeartbeats 1600000 in
theorem rfinside_spec (h : RfMem w r vn R C L n) (hn : n ≤ 1000000000) (i o : Int) : Calls Tryd.prog 17 #[.pointer (some ⟨r, 0, none⟩), .int .i64 i, .int .i64 o] w fun e w' => e = .returned (.bool (insTo L n i o n)) ∧ Below w.heap.size w w' := by
  have HH : Hid (∀ W, Keeps (fun _ => False) w W → ∀ c : Int, Calls Tryd.prog 12 #[.pointer (some ⟨r, 0, none⟩), .int .i64 o, .int .i64 c] W fun e w' => e = .returned (.bool (pB L (o, c) n)) ∧ Below W.heap.size W w') := fun W hW c => rfhas_spec (h.keeps hW (fun _ _ x => x)) hn o c
  obtain ⟨ao, cap, rfl, hle, hmx, hrow⟩ := h.row
  have c2 : w.cell? ⟨r, 2, none⟩ = some (.slice ao n cap) := by rw [cell_of_heap h.obj]; rfl
  have HR := Lib.hid hrow
  obtain ⟨res, hres⟩ : ∃ res, insTo L n i o n = res := ⟨_, rfl⟩
  rw [hres]
  have Hres := Lib.hid hres
  clear h hrow hres
  go_enter Tryd.func17, Tryd.ntmps17
  go_wp2_with fail
  go_loopg [14] n (fun g s wr => ∃ k : Nat, k ≤ n ∧ g = n - k ∧ s = .int .i64 k ∧ Hid (insTo L n i o k = true) ∧ Hid (Below w.heap.size w wr))
  case atStart => exact ⟨0, Nat.zero_le _, rfl, rfl, rfl, Below.refl _ _⟩
  case round =>
    clear c2
    obtain ⟨k, hk, rfl, rfl, hp, hb⟩ := hrel
    by_cases hlt : k < n
    · obtain ⟨g, rfl, hg, hcells⟩ := HR.out (by omega)
      obtain ⟨r0, r1⟩ := hcells k hlt
      rw [← hb.out.cell (p := ⟨g, _, none⟩) hg] at r0 r1
      have hkI : (k : Int) < (n : Int) := by omega
      by_cases h1 : (L k).1 = i
      · have hb1 : Below w.heap.size w (wr.alloc (.cells #[.int .i64 i, .int .i64 (L k).2] 27)) := hb.out.alloc hb.out.size _
        have HB1 := Lib.hid hb1
        have HC := Lib.hid (HH.out _ (Keeps.of_below hb1 (Nat.le_refl _)) (L k).2)
        have h0 : ((L k).1 == i) = true := by simpa using h1
        cases hq : pB L (o, (L k).2) n with
        | false =>
          have hr : res = false := by rw [← Hres.out]; (cases hh : insTo L n i o n with | false => rfl | true => rw [(insTo_iff L n i o n).1 hh k hlt h1] at hq; cases hq)
          rw [hq] at HC
          rw [h1] at r0
          generalize (L k).2 = y at r1 HC HB1
          clear Hres hcells hb1 h0 hq h1
          subst hr
          go_wp2_with fail
          refine HC.out.mono ?_
          rintro e w2 ⟨rfl, hb2⟩
          have hb3 : Hid (Below w.heap.size w w2) := HB1.out.trans (hb2.mono HB1.out.size)
          clear hb2
          go_wp2
          go_ret
          exact ⟨rfl, hb3.out⟩
        | true =>
          have hp2 : Hid (insTo L n i o (k + 1) = true) := by
            show (insTo L n i o k && _) = true
            rw [hp.out, hq]; simp [h1]
          rw [hq] at HC
          rw [h1] at r0
          generalize (L k).2 = y at r1 HC HB1
          clear hcells hb1 h0 hq h1
          go_wp2_with fail
          refine HC.out.mono ?_
          rintro e w2 ⟨rfl, hb2⟩
          have hb3 : Hid (Below w.heap.size w w2) := HB1.out.trans (hb2.mono HB1.out.size)
          clear hb2
          go_wp2_with fail
          go_roundg (n - (k + 1))
          case measure => omega
          case rel => exact ⟨k + 1, by omega, rfl, by go_num, hp2.out, hb3.out⟩
      · have hp2 : Hid (insTo L n i o (k + 1) = true) := by
          show (insTo L n i o k && _) = true
          rw [hp.out]; simp [h1]
        have hba : Hid (∀ o, Below w.heap.size w (wr.alloc o)) := fun o => hb.out.alloc hb.out.size o
        have h2 : ((L k).1 == i) = false := by simpa using h1
        generalize (L k).1 = x at r0 h2
        generalize (L k).2 = y at r1
        clear hcells h1
        go_wp2_with fail
        go_roundg (n - (k + 1))
        case measure => omega
        case rel => exact ⟨k + 1, by omega, rfl, by go_num, hp2.out, hba.out _⟩
    · obtain rfl : k = n := by omega
      have hr : res = true := by rw [← Hres.out]; exact hp.out
      clear Hres
      subst hr
      go_wp2
      go_ret
      exact ⟨rfl, hb.out⟩

set_option maxRecDepth 10000 in
set_option maxHeartbeats 1600000 in
theorem rfmeets_spec (h : RfMem w r vn R C L n) (hn : n ≤ 1000000000) (i o : Int) : Calls Tryd.prog 19 #[.pointer (some ⟨r, 0, none⟩), .int .i64 i, .int .i64 o] w fun e w' => e = .returned (.bool (metTo L n i o n)) ∧ Below w.heap.size w w' := by
  have HH : Hid (∀ W, Keeps (fun _ => False) w W → ∀ c : Int, Calls Tryd.prog 12 #[.pointer (some ⟨r, 0, none⟩), .int .i64 o, .int .i64 c] W fun e w' => e = .returned (.bool (pB L (o, c) n)) ∧ Below W.heap.size W w') := fun W hW c => rfhas_spec (h.keeps hW (fun _ _ x => x)) hn o c
  obtain ⟨ao, cap, rfl, hle, hmx, hrow⟩ := h.row
  have c2 : w.cell? ⟨r, 2, none⟩ = some (.slice ao n cap) := by rw [cell_of_heap h.obj]; rfl
  have HR := Lib.hid hrow
  obtain ⟨res, hres⟩ : ∃ res, metTo L n i o n = res := ⟨_, rfl⟩
  rw [hres]
  have Hres := Lib.hid hres
  clear h hrow hres
  go_enter Tryd.func19, Tryd.ntmps19
  go_wp2_with fail
  go_loopg [14] n (fun g s wr => ∃ k : Nat, k ≤ n ∧ g = n - k ∧ s = .int .i64 k ∧ Hid (metTo L n i o k = false) ∧ Hid (Below w.heap.size w wr))
  case atStart => exact ⟨0, Nat.zero_le _, rfl, rfl, rfl, Below.refl _ _⟩
  case round =>
    clear c2
    obtain ⟨k, hk, rfl, rfl, hp, hb⟩ := hrel
    by_cases hlt : k < n
    · obtain ⟨g, rfl, hg, hcells⟩ := HR.out (by omega)
      obtain ⟨r0, r1⟩ := hcells k hlt
      rw [← hb.out.cell (p := ⟨g, _, none⟩) hg] at r0 r1
      have hkI : (k : Int) < (n : Int) := by omega
      by_cases h1 : (L k).1 = i
      · have hb1 : Below w.heap.size w (wr.alloc (.cells #[.int .i64 i, .int .i64 (L k).2] 27)) := hb.out.alloc hb.out.size _
        have HB1 := Lib.hid hb1
        have HC := Lib.hid (HH.out _ (Keeps.of_below hb1 (Nat.le_refl _)) (L k).2)
        have h0 : ((L k).1 == i) = true := by simpa using h1
        cases hq : pB L (o, (L k).2) n with
        | true =>
          have hr : res = true := by rw [← Hres.out]; exact (metTo_iff L n i o n).2 ⟨k, hlt, h1, hq⟩
          rw [hq] at HC
          rw [h1] at r0
          generalize (L k).2 = y at r1 HC HB1
          clear Hres hcells hb1 h0 hq h1
          subst hr
          go_wp2_with fail
          refine HC.out.mono ?_
          rintro e w2 ⟨rfl, hb2⟩
          have hb3 : Hid (Below w.heap.size w w2) := HB1.out.trans (hb2.mono HB1.out.size)
          clear hb2
          go_wp2
          go_ret
          exact ⟨rfl, hb3.out⟩
        | false =>
          have hp2 : Hid (metTo L n i o (k + 1) = false) := by
            show (metTo L n i o k || _) = false
            rw [hp.out, hq]; simp [h1]
          rw [hq] at HC
          rw [h1] at r0
          generalize (L k).2 = y at r1 HC HB1
          clear hcells hb1 h0 hq h1
          go_wp2_with fail
          refine HC.out.mono ?_
          rintro e w2 ⟨rfl, hb2⟩
          have hb3 : Hid (Below w.heap.size w w2) := HB1.out.trans (hb2.mono HB1.out.size)
          clear hb2
          go_wp2_with fail
          go_roundg (n - (k + 1))
          case measure => omega
          case rel => exact ⟨k + 1, by omega, rfl, by go_num, hp2.out, hb3.out⟩
      · have hp2 : Hid (metTo L n i o (k + 1) = false) := by
          show (metTo L n i o k || _) = false
          rw [hp.out]; simp [h1]
        have hba : Hid (∀ o, Below w.heap.size w (wr.alloc o)) := fun o => hb.out.alloc hb.out.size o
        have h2 : ((L k).1 == i) = false := by simpa using h1
        generalize (L k).1 = x at r0 h2
        generalize (L k).2 = y at r1
        clear hcells h1
        go_wp2_with fail
        go_roundg (n - (k + 1))
        case measure => omega
        case rel => exact ⟨k + 1, by omega, rfl, by go_num, hp2.out, hba.out _⟩
    · obtain rfl : k = n := by omega
      have hr : res = false := by rw [← Hres.out]; exact hp.out
      clear Hres
      subst hr
      go_wp2
      go_ret
      exact ⟨rfl, hb.out⟩
end
end Go.Proofs.YtmljmpjpdgijlaaDoor
