/-
  The walk of the law ExprTells.
-/
import Derived.Test.YtipcgjigkipcpaaExprLives
import Derived.Test.YtipcgjigkipcpaaExprRefRight
import Derived.Test.YtipcgjigkipcpaaExprRefAt
import Derived.Test.YtipcgjigkipcpaaExprRefDepth
set_option linter.unusedVariables false
set_option linter.unusedSimpArgs false
set_option linter.unnecessarySimpa false
namespace Go.Proofs.Ytipcgjigkipcpaa
open Go.ChangeShapes Go.WideShapes Go.ChangeAt Go.RowKit Go.Deep NodePlain
theorem right_ok {vars : Int} {l : List Sp} (h : rightE vars l = true) : ∀ j s, l[j]? = some s → OkS vars j s := fun j s hs => by
  have hj : j < l.length := by
    rcases Nat.lt_or_ge j l.length with h' | h'
    · exact h'
    · rw [List.getElem?_eq_none h'] at hs; cases hs
  have := right_at h hj
  rw [getD_of hs] at this
  exact this
set_option maxRecDepth 100000
set_option maxHeartbeats 3200000
theorem exprTells_walk (w : World) (vars : Int) (hv0 : -9223372036854775808 ≤ vars) (hv1 : vars ≤ 9223372036854775807) (x : Int) (hx0 : 0 ≤ x) (hx1 : x ≤ 18446744073709551615) (ao : Option Addr) (na cap : Nat) (G : Nat → Nat → Value) (R : IsRow w [.int .i64, .int .i64, .int .i64] ao na cap G) :
    Calls Try.prog 5 #[.int .i64 vars, .int .u64 x, .slice ao na cap] w fun e w' => e = .returned (.bool true) ∧ Below w.heap.size w w' := by
  obtain ⟨X, rfl⟩ := Int.eq_ofNat_of_zero_le hx0
  have hX : X < 18446744073709551616 := by omega
  obtain ⟨n, hn⟩ : ∃ n, n = min na 40 := ⟨_, rfl⟩
  obtain ⟨l, hl, hrow, _⟩ := R.sps (show n ≤ na by omega)
  have hle := R.le
  have hnc : n ≤ cap := by omega
  have hn40 : n ≤ 40 := by omega
  have HROW := Lib.hid hrow
  have HRR : Hid (∀ W', Keeps (fun _ => False) w W' → Calls Try.prog 27 #[.int .i64 vars, .slice ao n cap] W' fun e W2 => e = .returned (.bool (rightE vars l)) ∧ Keeps (fun _ => False) W' W2) := fun W' hk => rright_spec W' vars hl hnc (hrow.quiet hk)
  have HST : Hid (∀ W', Keeps (fun _ => False) w W' → Calls Try.prog 29 #[.slice ao n cap] W' fun e W2 => ∃ so c, e = .returned (.slice so n c) ∧ n ≤ c ∧ Hid (Keeps (fun _ => False) W' W2 ∧ SpRow W2 so l ∧ ∀ b off, so = some ⟨b, off, none⟩ → W'.heap.size ≤ b)) := fun W' hk => steps_spec W' hl hnc (by omega) (hrow.quiet hk)
  have HAT : Hid (∀ W' so c, n ≤ c → SpRow W' so l → Calls Try.prog 28 #[.int .i64 vars, .int .u64 X, .slice so n c] W' fun e W2 => e = .returned (.tuple #[.bool (rightE vars l && atE X.testBit l), .bool (rightE vars l)]) ∧ Keeps (fun _ => False) W' W2) := fun W' so c hc hr => eAt_spec W' hX vars hl hc hr
  have HER : Hid (∀ W' so c, n ≤ c → SpRow W' so l → Calls Try.prog 30 #[.int .i64 vars, .slice so n c] W' fun e W2 => e = .returned (.bool (rightE vars l)) ∧ Keeps (fun _ => False) W' W2) := fun W' so c hc hr => eright_spec W' vars hl hc hr
  have HED : Hid (∀ W' so c, n ≤ c → SpRow W' so l → rightE vars l = true → Calls Try.prog 32 #[.slice so n c] W' fun e W2 => e = .returned (.int .i64 (depE l)) ∧ Keeps (fun _ => False) W' W2) := fun W' so c hc hr hok => edepth_spec W' hl hc (by omega) hr (right_ok hok)
  have HRA : Hid (∀ W', Keeps (fun _ => False) w W' → rightE vars l = true → Calls Try.prog 31 #[.int .u64 X, .slice ao n cap] W' fun e W2 => e = .returned (.bool (atE X.testBit l)) ∧ Keeps (fun _ => False) W' W2) := fun W' hk hok => rat19_spec W' hX hl hnc (hrow.quiet hk) hok
  have HRD : Hid (∀ W', Keeps (fun _ => False) w W' → rightE vars l = true → Calls Try.prog 33 #[.slice ao n cap] W' fun e W2 => e = .returned (.int .i64 (depE l)) ∧ Keeps (fun _ => False) W' W2) := fun W' hk hok => rdepth_spec W' hl hnc (hrow.quiet hk) hok
  have HE0 : Hid (∀ W', Calls Try.prog 32 #[.slice none 0 0] W' fun e W2 => e = .returned (.int .i64 0) ∧ Keeps (fun _ => False) W' W2) := fun W' => edepth_spec W' (vars := 0) (l := []) (n := 0) (cap := 0) rfl (Nat.le_refl _) (by omega) (fun h => by simp at h) (fun j s h => by simp at h)
  have HL := Lib.hid lives19_any
  generalize atE X.testBit l = r at *
  generalize depE l = dp at *
  clear hrow hX hx0 hx1
  go_enter Try.func5, Try.ntmps5
  go_upto_region 1 with fail
  go_cut [2] (fun t wx => t = .slice ao n cap ∧ wx = w)
  case first =>
    by_cases h40 : na ≤ 40
    · have h40I : (na : Int) ≤ 40 := by omega
      have e : n = na := by omega
      go_wp2_with fail
      all_goals (go_meet; refine ⟨?_, rfl⟩; rw [e])
    · have h40I : ¬ (na : Int) ≤ 40 := by omega
      have e : n = 40 := by omega
      go_wp2_with fail
      all_goals (go_meet; refine ⟨?_, rfl⟩; rw [e])
  case rest =>
    obtain ⟨rfl, rfl⟩ := hcut
    clear hn hle
    have HK0 : Hid (Keeps (fun _ => False) wc wc) := Keeps.refl _ _
    cases ho : rightE vars l with
    | false =>
      rw [ho] at HRR HAT HER
      clear HED HRA HRD
      have HAT2 : Hid (∀ W' so c, n ≤ c → SpRow W' so l → Calls Try.prog 28 #[.int .i64 vars, .int .u64 X, .slice so n c] W' fun e W2 => e = .returned (.tuple #[.bool false, .bool false]) ∧ Keeps (fun _ => False) W' W2) := HAT.out
      clear HAT ho
      go_wp2_with fail
      refine (HRR.out _ HK0.out).mono ?_
      rintro e w1 ⟨rfl, k1⟩
      have HK1 := Lib.hid k1
      clear k1 HRR
      go_wp2_with fail
      refine (HST.out _ HK1.out).mono ?_
      rintro e w2 ⟨so, c, rfl, hc, h2⟩
      go_wp2_with fail
      refine (HAT2.out w2 so c hc h2.out.2.1).mono ?_
      rintro e w3 ⟨rfl, k3⟩
      have HK3 := Lib.hid ((HK1.out.trans h2.out.1).trans k3)
      clear k3 h2 HK1 hc HAT2
      go_wp2_with fail
      refine (HST.out _ HK3.out).mono ?_
      rintro e w4 ⟨so4, c4, rfl, hc4, h4⟩
      go_wp2_with fail
      refine (HER.out w4 so4 c4 hc4 h4.out.2.1).mono ?_
      rintro e w5 ⟨rfl, k5⟩
      have HK5 := Lib.hid ((HK3.out.trans h4.out.1).trans k5)
      clear k5 h4 HK3 hc4 HER HST
      go_wp2_with fail
      refine (HE0.out w5).mono ?_
      rintro e w6 ⟨rfl, k6⟩
      have HK6 := Lib.hid (HK5.out.trans k6)
      clear k6 HK5
      go_wp2_with fail
      refine (HL.out w6).mono ?_
      rintro e w7 ⟨rfl, hb⟩
      go_wp2_with fail
      go_ret
      exact ⟨rfl, (HK6.out.below (Nat.le_refl _) (fun _ _ x => x)).trans (hb.mono HK6.out.size)⟩
    | true =>
      rw [ho] at HRR HAT HER HED HRA HRD
      have HAT2 : Hid (∀ W' so c, n ≤ c → SpRow W' so l → Calls Try.prog 28 #[.int .i64 vars, .int .u64 X, .slice so n c] W' fun e W2 => e = .returned (.tuple #[.bool r, .bool true]) ∧ Keeps (fun _ => False) W' W2) := HAT.out
      clear HAT ho
      go_wp2_with fail
      refine (HRR.out _ HK0.out).mono ?_
      rintro e w1 ⟨rfl, k1⟩
      have HK1 := Lib.hid k1
      clear k1 HRR
      go_wp2_with fail
      refine (HST.out _ HK1.out).mono ?_
      rintro e w2 ⟨so, c, rfl, hc, h2⟩
      go_wp2_with fail
      refine (HAT2.out w2 so c hc h2.out.2.1).mono ?_
      rintro e w3 ⟨rfl, k3⟩
      have HK3 := Lib.hid ((HK1.out.trans h2.out.1).trans k3)
      clear k3 h2 HK1 hc HAT2
      go_wp2_with fail
      refine (HST.out _ HK3.out).mono ?_
      rintro e w4 ⟨so4, c4, rfl, hc4, h4⟩
      go_wp2_with fail
      refine (HER.out w4 so4 c4 hc4 h4.out.2.1).mono ?_
      rintro e w5 ⟨rfl, k5⟩
      have HK5 := Lib.hid ((HK3.out.trans h4.out.1).trans k5)
      clear k5 h4 HK3 hc4 HER
      go_wp2_with fail
      refine (HRA.out _ HK5.out trivial).mono ?_
      rintro e w6 ⟨rfl, k6⟩
      have HK6 := Lib.hid (HK5.out.trans k6)
      clear k6 HK5 HRA
      go_wp2_with fail
      refine (HST.out _ HK6.out).mono ?_
      rintro e w7 ⟨so7, c7, rfl, hc7, h7⟩
      go_wp2_with fail
      refine (HED.out w7 so7 c7 hc7 h7.out.2.1 trivial).mono ?_
      rintro e w8 ⟨rfl, k8⟩
      have HK8 := Lib.hid ((HK6.out.trans h7.out.1).trans k8)
      clear k8 h7 HK6 hc7 HED HST
      go_wp2_with fail
      refine (HRD.out _ HK8.out trivial).mono ?_
      rintro e w9 ⟨rfl, k9⟩
      have HK9 := Lib.hid (HK8.out.trans k9)
      clear k9 HK8 HRD
      go_wp2_with fail
      refine (HE0.out w9).mono ?_
      rintro e wa ⟨rfl, ka⟩
      have HKA := Lib.hid (HK9.out.trans ka)
      clear ka HK9
      go_wp2_with fail
      refine (HL.out wa).mono ?_
      rintro e wb ⟨rfl, hb⟩
      go_wp2_with fail
      go_ret
      exact ⟨rfl, (HKA.out.below (Nat.le_refl _) (fun _ _ x => x)).trans (hb.mono HKA.out.size)⟩
end Go.Proofs.Ytipcgjigkipcpaa
