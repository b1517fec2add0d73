/-
  Within: one family has no more than another.
-/
import Derived.Test.YtmljmpjpdgijlaaDoorSetRead
import Derived.Test.YtmljmpjpdgijlaaDoorSetAsk
set_option linter.unusedVariables false
set_option linter.unusedSimpArgs false
set_option linter.unnecessarySimpa false
namespace Go.Proofs.YtmljmpjpdgijlaaDoor
open Go.ChangeShapes Go.WideShapes Go.ChangeAt Go.RowKit Go.Deep SetPlain
/-- The first n rows have no more. -/
def winTo (In In2 : Nat → Nat → Bool) (C : Nat) : Nat → Bool
  | 0 => true
  | i + 1 => winTo In In2 C i && allIn (In i) (In2 i) C
theorem winTo_not {In In2 : Nat → Nat → Bool} {C : Nat} : ∀ (n i : Nat), i < n → allIn (In i) (In2 i) C = false → winTo In In2 C n = false
  | 0, i, h, _ => absurd h (Nat.not_lt_zero _)
  | n + 1, i, h, hf => by
    unfold winTo
    rcases Nat.lt_or_ge i n with h1 | h1
    · rw [winTo_not n i h1 hf, Bool.false_and]
    · obtain rfl : i = n := by omega
      rw [hf, Bool.and_false]
theorem winTo_next {In In2 : Nat → Nat → Bool} {C i : Nat} (h : winTo In In2 C i = true) (h2 : allIn (In i) (In2 i) C = true) : winTo In In2 C (i + 1) = true := by
  unfold winTo
  rw [h, h2]; rfl
section
variable {w : World} {b bw : Nat} {rg rc : Nat → Nat} {R C : Nat} {In : Nat → Nat → Bool} {tot : Nat} {b2 bw2 : Nat} {rg2 rc2 : Nat → Nat} {In2 : Nat → Nat → Bool} {tot2 : Nat}
set_option maxRecDepth 10000 in
theorem rdcols_spec (h : FamRead w b bw rg rc R C In tot) : Calls Tryd.prog 23 #[.pointer (some ⟨b, 0, none⟩)] w fun e w' => e = .returned (.int .i64 C) ∧ w = w' := by
  have c0 := h.c1
  go_enter Tryd.func23, Tryd.ntmps23
  go_wp2
  go_ret
  exact ⟨rfl, rfl⟩
set_option maxRecDepth 100000 in
set_option maxHeartbeats 1600000 in
theorem rdwithin_spec (h : FamRead w b bw rg rc R C In tot) (h2 : FamRead w b2 bw2 rg2 rc2 R C In2 tot2) : Calls Tryd.prog 26 #[.pointer (some ⟨b, 0, none⟩), .pointer (some ⟨b2, 0, none⟩)] w fun e w' => e = .returned (.bool (winTo In In2 C R)) ∧ w = w' := by
  have HA := Lib.hid (rdrows_spec h)
  have HB := Lib.hid (rdrows_spec h2)
  have HC := Lib.hid (rdcols_spec h)
  have HD := Lib.hid (rdcols_spec h2)
  have H1 := Lib.hid h
  have H2 := Lib.hid h2
  have c2 := h.c2
  have d2 := h2.c2
  have hR := h.hR
  have hC := h.hC
  clear h h2
  obtain ⟨res, hres⟩ : ∃ res, winTo In In2 C R = res := ⟨_, rfl⟩
  rw [hres]
  have Hres := Lib.hid hres
  clear hres
  go_enter Tryd.func26, Tryd.ntmps26
  go_wp2_with fail
  refine HA.out.mono ?_
  rintro e w' ⟨rfl, rfl⟩
  go_wp2_with fail
  refine HB.out.mono ?_
  rintro e w' ⟨rfl, rfl⟩
  go_wp2_with fail
  refine HC.out.mono ?_
  rintro e w' ⟨rfl, rfl⟩
  go_wp2_with fail
  refine HD.out.mono ?_
  rintro e w' ⟨rfl, rfl⟩
  go_wp2_with fail
  refine HA.out.mono ?_
  rintro e w' ⟨rfl, rfl⟩
  clear HA HB HC HD
  go_wp2_with fail
  go_loopg [22] R (fun gh s wr => ∃ (i : Nat), i ≤ R ∧ gh = R - i ∧ s = .int .i64 i ∧ Hid (winTo In In2 C i = true) ∧ w = wr)
  case atStart => exact ⟨0, Nat.zero_le _, rfl, rfl, rfl, rfl⟩
  case round =>
    obtain ⟨i, hi, rfl, rfl, hwin, rfl⟩ := hrel
    by_cases hlt : i < R
    · have hiI : (i : Int) < (R : Int) := by omega
      have cr := H1.out.row i hlt
      have cr2 := H2.out.row i hlt
      have hle := H1.out.le i hlt
      have hle2 := H2.out.le i hlt
      have HW := Lib.hid (H1.out.word i hlt)
      have HW2 := Lib.hid (H2.out.word i hlt)
      have ho := Lib.hid (H1.out.out i)
      have hKC := wordsOf_le C
      have hK16 : wordsOf C ≤ 16 := by unfold wordsOf; omega
      have hend := Lib.hid (allIn_out (q := In2 i) hKC ho.out)
      have Hno := Lib.hid (fun hf => winTo_not (In := In) (In2 := In2) (C := C) R i hlt hf)
      have Hyes := Lib.hid (fun hf => winTo_next (In := In) (In2 := In2) (C := C) hwin.out hf)
      clear hKC
      generalize wordsOf C = K at cr cr2 hle hle2 HW HW2 hK16 hend
      generalize rg i = g at cr HW
      generalize rc i = cp at cr hle
      generalize rg2 i = g2 at cr2 HW2
      generalize rc2 i = cp2 at cr2 hle2
      generalize In i = p at HW ho hend Hno Hyes
      generalize In2 i = q at HW2 hend Hno Hyes
      go_wp2_with fail
      go_loopg [33] K (fun gh s wr => ∃ (k : Nat), k ≤ K ∧ gh = K - k ∧ s = .int .i64 k ∧ Hid (allIn p q (64 * k) = true) ∧ w = wr)
      case atStart => exact ⟨0, Nat.zero_le _, rfl, rfl, rfl, rfl⟩
      case round =>
        obtain ⟨k, hk, rfl, rfl, hc, rfl⟩ := hrel
        by_cases hlt : k < K
        · have cw := HW.out k hlt
          have cw2 := HW2.out k hlt
          have hkI : (k : Int) < (K : Int) := by omega
          have hzw := word_less p q k
          have hr := u64_andNot_nat (wordOf p k) (wordOf q k) (wordOf_lt p k) (wordOf_lt q k)
          by_cases hX : wordOf p k &&& (18446744073709551615 - wordOf q k) = 0
          · rw [hX] at hr
            have hn := Lib.hid (allIn_next hc.out (hzw.1 hX))
            clear hX hzw
            generalize wordOf p k = X at cw hr
            generalize wordOf q k = Y at cw2 hr
            have hr' : bits .andNot .u64 (X : Int) (Y : Int) = 0 := hr
            clear hr
            go_wp2_with fail
            go_roundg (K - (k + 1))
            case measure => omega
            case rel => exact ⟨k + 1, by omega, rfl, by go_num, hn.out, rfl⟩
          · have hn : res = false := by
              rw [← Hres.out]
              exact Hno.out (allIn_not (k := k) ho.out (fun hw => hX (hzw.2 hw)))
            generalize wordOf p k &&& (18446744073709551615 - wordOf q k) = Z at hr hX
            generalize wordOf p k = X at cw hr
            generalize wordOf q k = Y at cw2 hr
            have hX1 : ((Z : Int) == 0) = false := by simpa using hX
            have hX2 : ((Z : Int) != 0) = true := by simpa using hX
            clear hX hzw Hres
            subst hn
            go_wp2
            go_ret
            exact ⟨rfl, rfl⟩
        · obtain rfl : k = K := by omega
          have hnx := Lib.hid (Hyes.out (by rw [← hend.out]; exact hc.out))
          go_wp2_with fail
          go_roundg (R - (i + 1))
          case measure => omega
          case rel => exact ⟨i + 1, by omega, rfl, by go_num, hnx.out, rfl⟩
    · obtain rfl : i = R := by omega
      have hn : res = true := by rw [← Hres.out]; exact hwin.out
      clear Hres
      subst hn
      go_wp2
      go_ret
      exact ⟨rfl, rfl⟩
end
end Go.Proofs.YtmljmpjpdgijlaaDoor
