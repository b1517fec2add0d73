/-
  The document's rows: are two the same?
-/
import Derived.Test.YtplgaoojlaopmaaIteRows
import Derived.Test.YtplgaoojlaopmaaItePlaySem
import Derived.BigQuiet
set_option linter.unusedVariables false
set_option linter.unusedSimpArgs false
set_option linter.unnecessarySimpa false
namespace Go.Proofs.Ytplgaoojlaopmaa
open Go.ChangeShapes Go.WideShapes Go.ChangeAt Go.RowKit Go.Deep
theorem sameN_stop {R Q : Nat → Bool} {i : Nat} (hne : R i ≠ Q i) : ∀ m, i < m → sameN R Q m = false := fun m h => by
  cases e : sameN R Q m with
  | false => rfl
  | true => exact absurd ((sameN_iff R Q m).1 e i h) hne
set_option maxRecDepth 100000
set_option maxHeartbeats 1600000
theorem same_spec {W : World} {ab bb m : Nat} {R Q : Nat → Bool} (hm : m ≤ 64) (ha : RowAt W ab m R) (hb : RowAt W bb m Q) :
    Calls Try.prog 13 #[.slice (some ⟨ab, 0, none⟩) m m, .slice (some ⟨bb, 0, none⟩) m m] W fun e w' => e = .returned (.bool (sameN R Q m)) ∧ Keeps (fun _ => False) W w' := by
  have HA := Lib.hid ha
  have HB := Lib.hid hb
  clear ha hb
  go_enter Try.func13, Try.ntmps13
  go_wp2_with fail
  go_loopg [13] m (fun g t wx => ∃ i : Nat, i ≤ m ∧ g = m - i ∧ t = .int .i64 i ∧ Hid (sameN R Q i = true ∧ Keeps (fun _ => False) W wx))
  case atStart => exact ⟨0, Nat.zero_le _, rfl, rfl, ⟨rfl, Keeps.refl _ _⟩⟩
  case round =>
    obtain ⟨i, hi, rfl, rfl, HI⟩ := hrel
    by_cases hlt : i < m
    · have hiI : (i : Int) < (m : Int) := by omega
      have hwi : IntKind.i64.wrap ((i : Int) + 1) = (i : Int) + 1 := IntWalk.i64_in _ (by omega)
      have hc1 := (HA.out.keeps HI.out.2 (fun x => x)).cell hlt
      have hc2 := (HB.out.keeps HI.out.2 (fun x => x)).cell hlt
      have HK : Hid (∀ q, Keeps (fun _ => False) W (wr.drewN q)) := fun q => HI.out.2.drewN q
      by_cases he : R i = Q i
      · have HS : Hid (sameN R Q (i + 1) = true) := by
          show (sameN R Q i && (R i == Q i)) = true
          rw [HI.out.1, he]
          simp
        rw [he] at hc1
        clear he
        generalize Q i = x at hc1 hc2
        go_upto_region 6 with fail
        go_quiet (fail)
        go_wp2_with fail
        go_roundg (m - (i + 1))
        case measure => omega
        case rel => exact ⟨i + 1, by omega, rfl, by go_num, HS.out, HK.out _⟩
      · have HS : Hid (sameN R Q m = false) := sameN_stop he m hlt
        have hne : (R i == Q i) = false := by simp [he]
        have hnd : decide (R i = Q i) = false := by simp [he]
        generalize R i = y at hc1 hne he hnd
        generalize Q i = x at hc2 hne he hnd
        go_upto_region 6 with fail
        go_quiet (fail)
        go_wp2_with fail
        go_ret
        rw [HS.out]
        exact ⟨rfl, HK.out _⟩
    · obtain rfl : i = m := by omega
      have hiI : ¬ (i : Int) < (i : Int) := by omega
      go_wp2_with fail
      go_ret
      rw [HI.out.1]
      exact ⟨rfl, HI.out.2⟩
end Go.Proofs.Ytplgaoojlaopmaa
