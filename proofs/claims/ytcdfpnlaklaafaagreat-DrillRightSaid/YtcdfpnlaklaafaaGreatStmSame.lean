/-
  The document's Same, of rows of statements that are the same.
-/
import Derived.Test.YtcdfpnlaklaafaaGreatMD
set_option linter.unusedVariables false
set_option linter.unusedSimpArgs false
set_option linter.unnecessarySimpa false
namespace Go.Proofs.YtcdfpnlaklaafaaGreat
open Go.ChangeShapes Go.WideShapes Go.ChangeAt Go.RowKit Go.Deep
set_option maxRecDepth 100000
set_option maxHeartbeats 3200000
theorem msame_spec {w : World} {u v : Value} {a b : List Stm} (hu : ReadsM w u a) (hv : ReadsM w v b) (ha : a.length ≤ 1000000) (hab : a = b) :
    Calls Tryz.prog 36 #[u, v] w fun e w' => e = .returned (.bool true) ∧ ∃ nq, w' = w.drewN nq := by
  subst hab
  obtain ⟨au, cu, rfl, hcu0, hru⟩ := hu
  obtain ⟨av, cv, rfl, hcv0, hrv⟩ := hv
  obtain ⟨n, hn⟩ : ∃ n, a.length = n := ⟨_, rfl⟩
  rw [hn] at hcu0 hcv0 hru hrv ha ⊢
  have HU := Lib.hid hru; have HV := Lib.hid hrv; have HN := Lib.hid hn
  clear hru hrv hn
  go_enter Tryz.func36, Tryz.ntmps36
  go_wp2_with fail
  go_loopg [13] n (fun g s wr => ∃ k nq : Nat, k ≤ n ∧ g = n - k ∧ s = .int .i64 k ∧ wr = w.drewN nq)
  case atStart => exact ⟨0, 0, Nat.zero_le _, rfl, rfl, rfl⟩
  case round =>
    obtain ⟨k, nq, hk, rfl, rfl, rfl⟩ := hrel
    by_cases hlt : k < n
    · obtain ⟨gu, ou, rfl, hgu, hcu⟩ := HU.out (by omega)
      obtain ⟨gv, ov, rfl, hgv, hcv⟩ := HV.out (by omega)
      obtain ⟨x, hx⟩ : ∃ x, a[k]? = some x := ⟨_, List.getElem?_eq_getElem (by rw [HN.out]; exact hlt)⟩
      have n1 := hcu k x hx
      have n2 := hcv k x hx
      obtain ⟨⟨yh1, yh2⟩, yk, yo, ⟨ya1, ya2⟩, ⟨yb1, yb2⟩, yi⟩ := x
      obtain ⟨q0, q1, q2, q3, q4, q5, q6, q7, q8⟩ := n1
      obtain ⟨p0, p1, p2, p3, p4, p5, p6, p7, p8⟩ := n2
      simp only at q0 q1 q2 q3 q4 q5 q6 q7 q8 p0 p1 p2 p3 p4 p5 p6 p7 p8
      have hkI : (k : Int) < (n : Int) := by omega
      have hku : k < cu := by omega
      have hkv : k < cv := by omega
      clear hcu hcv hx
      go_wp2_with fail
      go_quiet (fail)
      go_wp2_with fail
      go_roundg (n - (k + 1))
      case measure => omega
      case rel => exact ⟨k + 1, _, by omega, rfl, by go_num, rfl⟩
    · obtain rfl : k = n := by omega
      have hkI : ¬ (k : Int) < (k : Int) := by omega
      go_wp2_with fail
      go_ret
      exact ⟨rfl, _, rfl⟩
end Go.Proofs.YtcdfpnlaklaafaaGreat
