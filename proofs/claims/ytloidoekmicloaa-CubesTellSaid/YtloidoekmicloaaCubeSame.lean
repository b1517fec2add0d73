/-
  The document's Same, of rows of numbers that are the same.
-/
import Derived.Test.YtloidoekmicloaaOrdRows
import Derived.Deep.LoopGhost
import Derived.BigQuiet
import Derived.Deep.QuietTactic
set_option linter.unusedVariables false
set_option linter.unusedSimpArgs false
set_option linter.unnecessarySimpa false
namespace Go.Proofs.Ytloidoekmicloaa
open Go.ChangeShapes Go.WideShapes Go.ChangeAt Go.RowKit Go.Deep NodePlain
set_option maxRecDepth 100000
set_option maxHeartbeats 1600000
theorem csame_spec {w : World} {u v : Value} {a b : List Int} (hu : ReadsI w u a) (hv : ReadsI w v b) (ha : a.length ≤ 1000000) (hb : b.length ≤ 1000000) (hab : a = b) :
    Calls Try.prog 14 #[u, v] w fun e w' => e = .returned (.bool true) ∧ ∃ nq, w' = w.drewN nq := by
  subst hab
  obtain ⟨au, cu, rfl, hcu0, hru⟩ := hu
  obtain ⟨av, cv, rfl, hcv0, hrv⟩ := hv
  obtain ⟨n, hn⟩ : ∃ n, a.length = n := ⟨_, rfl⟩
  rw [hn] at hcu0 hcv0 hru hrv ha ⊢
  have HU := Lib.hid hru; have HV := Lib.hid hrv; have HN := Lib.hid hn
  clear hru hrv hn hb
  go_enter Try.func14, Try.ntmps14
  go_wp2_with fail
  go_loopg [13] n (fun g s wr => ∃ k nq : Nat, k ≤ n ∧ g = n - k ∧ s = .int .i64 k ∧ wr = w.drewN nq)
  case atStart => exact ⟨0, 0, Nat.zero_le _, rfl, rfl, rfl⟩
  case round =>
    obtain ⟨k, nq, hk, rfl, rfl, rfl⟩ := hrel
    by_cases hlt : k < n
    · obtain ⟨gu, ou, rfl, hgu, hcu⟩ := HU.out (by omega)
      obtain ⟨gv, ov, rfl, hgv, hcv⟩ := HV.out (by omega)
      obtain ⟨x, hx⟩ : ∃ x, a[k]? = some x := ⟨_, List.getElem?_eq_getElem (by rw [HN.out]; exact hlt)⟩
      have cu1 := hcu k x hx
      have cv1 := hcv k x hx
      have hkI : (k : Int) < (n : Int) := by omega
      have hku : k < cu := by omega
      have hkv : k < cv := by omega
      clear hcu hcv hx
      go_wp2_with fail
      go_quiet (fail)
      go_wp2_with fail
      go_roundg (n - (k + 1))
      case measure => omega
      case rel => exact ⟨k + 1, _, by omega, rfl, by go_num, rfl⟩
    · obtain rfl : k = n := by omega
      have hkI : ¬ (k : Int) < (k : Int) := by omega
      go_wp2_with fail
      go_ret
      exact ⟨rfl, _, rfl⟩
end Go.Proofs.Ytloidoekmicloaa
