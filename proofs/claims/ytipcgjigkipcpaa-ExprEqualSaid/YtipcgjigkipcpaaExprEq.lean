/-
  Do two formulas say the same everywhere?
-/
import Derived.Test.YtipcgjigkipcpaaExprSteps
import Derived.Test.YtipcgjigkipcpaaOrdRight
set_option linter.unusedVariables false
set_option linter.unusedSimpArgs false
set_option linter.unnecessarySimpa false
namespace Go.Proofs.Ytipcgjigkipcpaa
open Go.ChangeShapes Go.WideShapes Go.ChangeAt Go.RowKit Go.Deep NodePlain
/-- The least bits, below m, at which two differ. -/
def FirstAt (A B : Nat → Bool) (m : Nat) (same : Bool) (q : Nat) : Prop := (same = true ∧ q = 0 ∧ ∀ p, p < m → A p = B p) ∨ (same = false ∧ q < m ∧ A q ≠ B q ∧ ∀ p, p < q → A p = B p)
set_option maxRecDepth 100000
set_option maxHeartbeats 3200000
theorem equal_no {W : World} {k : Nat} (hk : k ≤ 8) {ao bo : Option Addr} {n m ca cb : Nat} {a b : List Sp} (ha : a.length = n) (hb : b.length = m) (hna : n ≤ ca) (hmb : m ≤ cb) (ra : SpRow W ao a) (rb : SpRow W bo b) (ho : (rightE k a && rightE k b) = false) :
    Calls Try.prog 46 #[.int .i64 k, .slice ao n ca, .slice bo m cb] W fun e W' => e = .returned (.tuple #[.bool false, .int .u64 0, .bool false]) ∧ Keeps (fun _ => False) W W' := by
  have HA := Lib.hid (eright_spec W k ha hna ra)
  have HB : Hid (∀ W', Keeps (fun _ => False) W W' → Calls Try.prog 30 #[.int .i64 k, .slice bo m cb] W' fun e W2 => e = .returned (.bool (rightE k b)) ∧ Keeps (fun _ => False) W' W2) := fun W' hk => eright_spec W' k hb hmb (rb.quiet hk)
  have hk16 : ¬ 16 < (k : Int) := by omega
  clear ra rb
  generalize rightE k a = oa at *
  generalize rightE k b = ob at *
  cases oa with
  | false =>
    clear ho
    go_enter Try.func46, Try.ntmps46
    go_wp2_with fail
    refine HA.out.mono ?_
    rintro e w1 ⟨rfl, k1⟩
    have HK := Lib.hid k1
    clear k1
    go_wp2_with fail
    refine bodyPost_ret (v := .tuple #[.bool false, .int .u64 0, .bool false]) (by simp [results, Try.results46, go_sem]) rfl ?_
    exact ⟨rfl, HK.out⟩
  | true =>
    rw [Bool.true_and] at ho
    subst ho
    go_enter Try.func46, Try.ntmps46
    go_wp2_with fail
    refine HA.out.mono ?_
    rintro e w1 ⟨rfl, k1⟩
    have HK := Lib.hid k1
    clear k1
    go_wp2_with fail
    refine (HB.out _ HK.out).mono ?_
    rintro e w2 ⟨rfl, k2⟩
    have HK2 := Lib.hid (HK.out.trans k2)
    clear k2
    go_wp2_with fail
    refine bodyPost_ret (v := .tuple #[.bool false, .int .u64 0, .bool false]) (by simp [results, Try.results46, go_sem]) rfl ?_
    exact ⟨rfl, HK2.out⟩
theorem equal_yes {W : World} {k : Nat} (hk : k ≤ 8) {ao bo : Option Addr} {n m ca cb : Nat} {a b : List Sp} (ha : a.length = n) (hb : b.length = m) (hna : n ≤ ca) (hmb : m ≤ cb) (ra : SpRow W ao a) (rb : SpRow W bo b) (hoa : rightE k a = true) (hob : rightE k b = true) :
    Calls Try.prog 46 #[.int .i64 k, .slice ao n ca, .slice bo m cb] W fun e W' => ∃ same q, e = .returned (.tuple #[.bool same, .int .u64 ((q : Nat) : Int), .bool true]) ∧ Hid (Keeps (fun _ => False) W W' ∧ FirstAt (fun p => atE p.testBit a) (fun p => atE p.testBit b) (2 ^ k) same q) := by
  have HA := Lib.hid (eright_spec W k ha hna ra)
  have HB : Hid (∀ W', Keeps (fun _ => False) W W' → Calls Try.prog 30 #[.int .i64 k, .slice bo m cb] W' fun e W2 => e = .returned (.bool true) ∧ Keeps (fun _ => False) W' W2) := fun W' hk => by
    have q := eright_spec W' k hb hmb (rb.quiet hk)
    rw [hob] at q
    exact q
  rw [hoa] at HA
  have H1 : Hid (∀ W' (q : Nat), Keeps (fun _ => False) W W' → q < 18446744073709551616 → Calls Try.prog 74 #[.int .u64 q, .slice ao n ca] W' fun e W2 => e = .returned (.bool (atE q.testBit a)) ∧ Keeps (fun _ => False) W' W2) := fun W' q hk hq => eat_spec W' hq ha hna (ra.quiet hk) hoa
  have H2 : Hid (∀ W' (q : Nat), Keeps (fun _ => False) W W' → q < 18446744073709551616 → Calls Try.prog 74 #[.int .u64 q, .slice bo m cb] W' fun e W2 => e = .returned (.bool (atE q.testBit b)) ∧ Keeps (fun _ => False) W' W2) := fun W' q hk hq => eat_spec W' hq hb hmb (rb.quiet hk) hob
  have hk16 : ¬ 16 < (k : Int) := by omega
  obtain ⟨N, hN⟩ : ∃ N, 2 ^ k = N := ⟨_, rfl⟩
  have hN256 : N ≤ 256 := by rw [← hN]; exact Nat.le_trans (Nat.pow_le_pow_right (by omega) hk) (by decide)
  have hpw : IntKind.u64.wrap ((2 : Int) ^ k) = (N : Int) := by rw [← hN]; exact pow_bit (by omega)
  rw [hN]
  obtain ⟨A, hA⟩ : ∃ A : Nat → Bool, (fun p : Nat => atE p.testBit a) = A := ⟨_, rfl⟩
  obtain ⟨B, hB⟩ : ∃ A : Nat → Bool, (fun p : Nat => atE p.testBit b) = A := ⟨_, rfl⟩
  have EA : ∀ q : Nat, atE q.testBit a = A q := fun q => by rw [← hA]
  have EB : ∀ q : Nat, atE q.testBit b = B q := fun q => by rw [← hB]
  simp only [EA] at H1
  simp only [EB] at H2
  rw [hA, hB]
  clear ra rb hoa hob hN hA hB EA EB
  go_enter Try.func46, Try.ntmps46
  go_wp2_with fail
  refine HA.out.mono ?_
  rintro e w1 ⟨rfl, k1⟩
  have HK := Lib.hid k1
  clear k1
  go_wp2_with fail
  refine (HB.out _ HK.out).mono ?_
  rintro e w2 ⟨rfl, k2⟩
  have HK2 := Lib.hid (HK.out.trans k2)
  clear k2 HA HB HK
  go_wp2_with fail
  go_loopg [26] N (fun g t wy => ∃ q : Nat, q ≤ N ∧ g = N - q ∧ t = .int .u64 q ∧ Hid (Keeps (fun _ => False) W wy ∧ ∀ p, p < q → A p = B p))
  case atStart => exact ⟨0, Nat.zero_le _, rfl, rfl, HK2.out, fun p hp => by omega⟩
  case round =>
    clear HK2
    obtain ⟨q, hq, rfl, rfl, HJ⟩ := hrel
    by_cases hlt : q < N
    · have hqI : (q : Int) < (N : Int) := by omega
      have hwq : IntKind.u64.wrap ((q : Int) + 1) = (q : Int) + 1 := IntWalk.u64_in _ (by omega)
      have HC := Lib.hid (H1.out wr q HJ.out.1 (by omega))
      have HD : Hid (∀ W', Keeps (fun _ => False) wr W' → Calls Try.prog 74 #[.int .u64 q, .slice bo m cb] W' fun e W2 => e = .returned (.bool (B q)) ∧ Keeps (fun _ => False) W' W2) := fun W' hk => H2.out W' q (HJ.out.1.trans hk) (by omega)
      obtain ⟨va, hva⟩ : ∃ v, A q = v := ⟨_, rfl⟩
      obtain ⟨vb, hvb⟩ : ∃ v, B q = v := ⟨_, rfl⟩
      rw [hva] at HC
      rw [hvb] at HD
      by_cases hv : va = vb
      · have HN : Hid (∀ p, p < q + 1 → A p = B p) := fun p hp => by
          by_cases e : p = q
          · rw [e, hva, hvb, hv]
          · exact HJ.out.2 p (by omega)
        subst hv
        clear hva hvb
        go_wp2_with fail
        refine HC.out.mono ?_
        rintro e w3 ⟨rfl, k3⟩
        have HK3 := Lib.hid k3
        clear k3 HC
        go_wp2_with fail
        refine (HD.out _ HK3.out).mono ?_
        rintro e w4 ⟨rfl, k4⟩
        have HK4 := Lib.hid ((HJ.out.1.trans HK3.out).trans k4)
        clear k4 HD HK3 HJ
        go_wp2_with fail
        go_roundg (N - (q + 1))
        case measure => omega
        case rel => exact ⟨q + 1, by omega, rfl, by go_num, HK4.out, HN.out⟩
      · have HF : Hid (FirstAt A B N false q) := .inr ⟨rfl, hlt, by rw [hva, hvb]; exact hv, HJ.out.2⟩
        have hvb2 : (va != vb) = true := bne_iff_ne.2 hv
        have hvb3 : (va == vb) = false := beq_eq_false_iff_ne.2 hv
        clear hva hvb
        go_wp2_with fail
        refine HC.out.mono ?_
        rintro e w3 ⟨rfl, k3⟩
        have HK3 := Lib.hid k3
        clear k3 HC
        go_wp2_with fail
        refine (HD.out _ HK3.out).mono ?_
        rintro e w4 ⟨rfl, k4⟩
        have HK4 := Lib.hid ((HJ.out.1.trans HK3.out).trans k4)
        clear k4 HD HK3 HJ
        go_wp2_with fail
        refine bodyPost_ret (v := .tuple #[.bool false, .int .u64 (q : Int), .bool true]) (by simp [results, Try.results46, go_sem]) rfl ?_
        first | exact ⟨_, q, rfl, HK4.out, HF.out⟩ | exact .inl ⟨q, rfl, HK4.out, HF.out⟩
    · have hqI : ¬ (q : Int) < (N : Int) := by omega
      have hqN : q = N := by omega
      have HF : Hid (FirstAt A B N true 0) := .inl ⟨rfl, rfl, by rw [← hqN]; exact HJ.out.2⟩
      go_wp2_with fail
      refine bodyPost_ret (v := .tuple #[.bool true, .int .u64 0, .bool true]) (by simp [results, Try.results46, go_sem]) rfl ?_
      first | exact ⟨_, 0, rfl, HJ.out.1, HF.out⟩ | exact .inr ⟨0, rfl, HJ.out.1, HF.out⟩
end Go.Proofs.Ytipcgjigkipcpaa
