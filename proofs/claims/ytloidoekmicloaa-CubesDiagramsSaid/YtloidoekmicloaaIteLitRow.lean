/-
  The document's row of a variable; are two rows the same?
-/
import Derived.Test.YtloidoekmicloaaIteRows
set_option linter.unusedVariables false
set_option linter.unusedSimpArgs false
set_option linter.unnecessarySimpa false
namespace Go.Proofs.Ytloidoekmicloaa
open Go.ChangeShapes Go.WideShapes Go.ChangeAt Go.RowKit Go.Deep
set_option maxRecDepth 100000
set_option maxHeartbeats 1600000
theorem lit_row (W : World) (k : Nat) (hk : k ≤ 6) (m : Nat) (hm : 2 ^ k = m) (v : Nat) (hv : v ≤ 7) : Calls Try.prog 28 #[.int .i64 k, .int .i64 v] W (RowPost m (fun i => decide (v < k) && i.testBit v) W) := by
  have hm64 : m ≤ 64 := by rw [← hm]; exact Nat.le_trans (Nat.pow_le_pow_right (by omega) hk) (by decide)
  have HC := Lib.hid (row_spec W k hk m hm)
  have HPOW : Hid (∀ j, j < v → 2 ^ j * 2 = 2 ^ (j + 1) ∧ 2 ^ (j + 1) ≤ 128) := fun j hj => ⟨(Nat.pow_succ 2 j).symm, Nat.le_trans (Nat.pow_le_pow_right (by omega) (show j + 1 ≤ 7 by omega)) (by decide)⟩
  clear hm
  go_enter Try.func28, Try.ntmps28
  go_wp2_with fail
  refine HC.out.mono ?_
  rintro e wA ⟨b, rfl, hb⟩
  have HB := Lib.hid hb.out.1
  have HK := Lib.hid hb.out.2.1
  have HR := Lib.hid hb.out.2.2
  clear hb HC
  go_wp2_with fail
  go_loopg [6, 7] v (fun g s t wy => ∃ (j p : Nat), j ≤ v ∧ g = v - j ∧ s = .int .i64 p ∧ t = .int .i64 j ∧ Hid (2 ^ j = p) ∧ wy = wA)
  case atStart => exact ⟨0, 1, Nat.zero_le _, rfl, rfl, rfl, Lib.hid (by decide), rfl⟩
  case round =>
    obtain ⟨j, p, hj, rfl, rfl, rfl, HP, rfl⟩ := hrel
    by_cases hlt : j < v
    · have hjI : (j : Int) < (v : Int) := by omega
      obtain ⟨q1, q2⟩ := HPOW.out j hlt
      rw [HP.out] at q1
      have hp : p * 2 ≤ 128 := by omega
      have HQ := Lib.hid q1
      clear q1 q2
      go_wp2_with fail
      go_roundg (v - (j + 1))
      case measure => omega
      case rel => exact ⟨j + 1, p * 2, by omega, rfl, by go_num, by go_num, HQ.out.symm, rfl⟩
    · have hjE : j = v := by omega
      have hjI : ¬ (j : Int) < (v : Int) := by omega
      rw [hjE] at HP
      have hp0 : 0 < p := by rw [← HP.out]; exact Nat.two_pow_pos v
      have hp128 : p ≤ 128 := by rw [← HP.out]; exact Nat.le_trans (Nat.pow_le_pow_right (by omega) hv) (by decide)
      go_wp2_with fail
      go_loopg [20] m (fun g t wy => ∃ (j : Nat), j ≤ m ∧ g = m - j ∧ t = .int .i64 j ∧ Hid (Keeps (fun _ => False) W wy) ∧ Hid (RowAt wy b m (fun i => decide (i < j) && (decide (v < k) && i.testBit v))))
      case atStart => exact ⟨0, Nat.zero_le _, rfl, rfl, HK.out, HR.out.congr (fun j _ => by simp)⟩
      case round =>
        clear HK HR
        obtain ⟨i, hi, rfl, rfl, HK, HR⟩ := hrel
        by_cases hlti : i < m
        · have hiI : (i : Int) < (m : Int) := by omega
          have c := HR.out.cell hlti
          have fz := free_of_heap HR.out i
          have lb := lt_of_heap HR.out
          have HN : Hid (∀ x, x = (decide (v < k) && i.testBit v) → Keeps (fun _ => False) W (wr.setCell ⟨b, i, none⟩ (.bool x)) ∧ RowAt (wr.setCell ⟨b, i, none⟩ (.bool x)) b m (fun i' => decide (i' < i + 1) && (decide (v < k) && i'.testBit v))) := fun x hx => by
            refine ⟨HK.out.setCell (fun h => by have := HB.out; simp only [] at h; omega) _, (HR.out.set hlti x).congr (fun i' _ => ?_)⟩
            by_cases e : i' = i
            · subst e; simp [hx]
            · rw [if_neg e]
              have : decide (i' < i) = decide (i' < i + 1) := by
                by_cases h : i' < i
                · rw [decide_eq_true h, decide_eq_true (by omega)]
                · rw [decide_eq_false h, decide_eq_false (by omega)]
              rw [this]
          clear HK HR
          by_cases hvk : v < k
          · have hvI : (v : Int) < (k : Int) := by omega
            have hq : (i : Int).tdiv (p : Int) = ((i / p : Nat) : Int) := by
              rw [Int.tdiv_eq_ediv_of_nonneg (by omega)]; simp
            have hpz : ¬ (p : Int) = 0 := by omega
            have hpz2 : ¬ p = 0 := by omega
            have hdp : i / p ≤ 64 := Nat.le_trans (Nat.div_le_self i p) (by omega)
            have HBIT : Hid (∀ x : Bool, x = decide (i / p % 2 = 1) → x = (decide (v < k) && i.testBit v)) := fun x hx => by
              rw [hx, decide_eq_true hvk, Bool.true_and, ← HP.out, Nat.testBit_eq_decide_div_mod_eq]
            generalize hdv : i / p = dv at hq hdp HBIT
            clear hdv
            have hbq : ((dv : Int) % 2 == 1) = decide (dv % 2 = 1) := by
              by_cases h : dv % 2 = 1
              · rw [decide_eq_true h]; exact beq_iff_eq.2 (by omega)
              · rw [decide_eq_false h]; exact beq_eq_false_iff_ne.2 (by omega)
            have HX := Lib.hid (HN.out _ (HBIT.out _ hbq))
            clear hbq HN HBIT
            go_wp2_with fail
            go_roundg (m - (i + 1))
            case measure => omega
            case rel => exact ⟨i + 1, by omega, rfl, by go_num, HX.out.1, HX.out.2⟩
          · have hvI : ¬ (v : Int) < (k : Int) := by omega
            have hfin : Hid (∀ x : Bool, x = false → x = (decide (v < k) && i.testBit v)) := fun x hx => by rw [hx, decide_eq_false hvk]; rfl
            go_wp2_with fail
            go_roundg (m - (i + 1))
            case measure => omega
            case rel => exact ⟨i + 1, by omega, rfl, by go_num, (HN.out _ (hfin.out _ rfl)).1, (HN.out _ (hfin.out _ rfl)).2⟩
        · have hiE : i = m := by omega
          have hiI : ¬ (i : Int) < (m : Int) := by omega
          rw [hiE] at HR
          have HX := Lib.hid (HR.out.congr (S := fun i => decide (v < k) && i.testBit v) (fun i hi => by simp [hi]))
          clear HR
          go_wp2_with fail
          go_ret
          exact ⟨b, rfl, HB.out, HK.out, HX.out⟩
end Go.Proofs.Ytloidoekmicloaa
