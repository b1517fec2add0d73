/-
  The walk of the law ExprBuilds.
-/
import Derived.Test.YtipcgjigkipcpaaExprLives
import Derived.Test.YtipcgjigkipcpaaExprRefRight
import Derived.Test.YtipcgjigkipcpaaExprRefAt
import Derived.Test.YtipcgjigkipcpaaOrdRight
set_option linter.unusedVariables false
set_option linter.unusedSimpArgs false
set_option linter.unnecessarySimpa false
namespace Go.Proofs.Ytipcgjigkipcpaa
open Go.ChangeShapes Go.WideShapes Go.ChangeAt Go.RowKit Go.Deep NodePlain
set_option maxRecDepth 100000
set_option maxHeartbeats 3200000
/-- A formula's diagram, of a new maker with the laws' budget. -/
theorem build_new {W : World} {db k : Nat} {Fp : Nat → Prop} (hk : k ≤ 8) (h : Bd W db k 1048576 st0 0 Fp) {ao : Option Addr} {n cap : Nat} {l : List Sp} (hl : l.length = n) (hcap : n ≤ cap) (hn : n ≤ 50) (hr : SpRow W ao l) (hra : ∀ b off, ao = some ⟨b, off, none⟩ → ¬ Fp b) (hok : rightE k l = true) :
    Calls Try.prog 35 #[.pointer (some ⟨db, 0, none⟩), .slice ao n cap] W fun e W' => ∃ x st c F, e = .returned (.tuple #[.int .i64 x, .bool true]) ∧ Hid (Bd W' db k 1048576 st c F ∧ Mv W W' Fp F) ∧ Hid (Fine k 1048576 100 st ∧ isN st.n x = true ∧ st.n ≤ 25600 ∧ 0 ≤ c ∧ c ≤ 100 ∧ ∀ β, ev st.L β x = atE β l) := by
  have hp : 2 ^ ((k : Int)).toNat ≤ 256 := pow_V (by omega)
  have hm : n * (2 * 2 ^ ((k : Int)).toNat) ≤ 50 * (2 * 256) := Nat.mul_le_mul hn (by omega)
  have h0 : st0.n = 0 := rfl
  have hroom : ((st0.n + n * (2 * 2 ^ ((k : Int)).toNat) : Nat) : Int) < 1048576 := by omega
  have hfine := fine0 (V := (k : Int)) (B := 1048576) (by omega)
  obtain ⟨f1, f2, f3, f4, f5⟩ := bldN_ev (by omega) (by omega) hfine hok (by rw [hl]; exact hroom)
  rw [hl] at f1 f3
  refine (build_spec h (by omega) (by omega) hfine hl hcap hr hra hok (by omega) (by omega) (by omega) hroom).mono ?_
  rintro e W' ⟨rfl, hx⟩
  obtain ⟨c, F, hb, hmv, hc0, hc1⟩ := hx.out
  rw [hl] at hc1
  exact ⟨_, _, c, F, rfl, ⟨hb, hmv⟩, f1.mono (by omega), f2, by omega, hc0, by omega, f5⟩
theorem exprBuilds_walk (w : World) (x : Int) (hx0 : 0 ≤ x) (hx1 : x ≤ 18446744073709551615) (ao : Option Addr) (na cap : Nat) (G : Nat → Nat → Value) (R : IsRow w [.int .i64, .int .i64, .int .i64] ao na cap G) :
    Calls Try.prog 10 #[.int .u64 x, .slice ao na cap] w fun e w' => e = .returned (.bool true) ∧ Below w.heap.size w w' := by
  obtain ⟨X, rfl⟩ := Int.eq_ofNat_of_zero_le hx0
  obtain ⟨k, hk⟩ : ∃ k, X % 9 = k := ⟨_, rfl⟩
  have hk8 : k ≤ 8 := by omega
  have hmod : ((X : Int)).tmod 9 = (k : Int) := by rw [Int.tmod_eq_emod_of_nonneg (by omega)]; omega
  have hwk : IntKind.i64.wrap (k : Int) = (k : Int) := IntWalk.i64_in _ (by omega)
  obtain ⟨m, hm⟩ : ∃ m, 2 ^ k = m := ⟨_, rfl⟩
  have hm256 : m ≤ 256 := by rw [← hm]; exact Nat.le_trans (Nat.pow_le_pow_right (by omega) hk8) (by decide)
  have hpw : IntKind.u64.wrap ((2 : Int) ^ k) = (m : Int) := by rw [← hm]; exact pow_bit (by omega)
  obtain ⟨n, hn⟩ : ∃ n, n = min na 40 := ⟨_, rfl⟩
  obtain ⟨l, hl, hrow, _⟩ := R.sps (show n ≤ na by omega)
  have hle := R.le
  have hnc : n ≤ cap := by omega
  have hn40 : n ≤ 40 := by omega
  have HROW := Lib.hid hrow
  have HRR : Hid (∀ W', Keeps (fun x => w.heap.size ≤ x) w W' → Calls Try.prog 27 #[.int .i64 (k : Int), .slice ao n cap] W' fun e W2 => e = .returned (.bool (rightE k l)) ∧ Keeps (fun _ => False) W' W2) := fun W' hk => rright_spec W' k hl hnc (hrow.old hk)
  have HST : Hid (∀ W', Keeps (fun _ => False) w W' → Calls Try.prog 29 #[.slice ao n cap] W' fun e W2 => ∃ so c, e = .returned (.slice so n c) ∧ n ≤ c ∧ Hid (Keeps (fun _ => False) W' W2 ∧ SpRow W2 so l ∧ ∀ b off, so = some ⟨b, off, none⟩ → W'.heap.size ≤ b)) := fun W' hk => steps_spec W' hl hnc (by omega) (hrow.quiet hk)
  have HN1 : Hid (Calls Try.prog 13 #[.int .i64 (k : Int), .int .i64 1048576] w fun e W' => ∃ db Fp, e = .returned (.pointer (some ⟨db, 0, none⟩)) ∧ Hid (Bd W' db k 1048576 st0 0 Fp ∧ Keeps (fun _ => False) w W' ∧ ∀ x, Fp x → w.heap.size ≤ x)) := bnew_spec w k 1048576 k 1048576 (by omega) (by omega) rfl ⟨by omega, rfl⟩
  have HBY : Hid (∀ (W' : World) (db : Nat) (Fp : Nat → Prop) so c, Bd W' db k 1048576 st0 0 Fp → n ≤ c → SpRow W' so l → (∀ b off, so = some ⟨b, off, none⟩ → ¬ Fp b) → rightE k l = true → Calls Try.prog 35 #[.pointer (some ⟨db, 0, none⟩), .slice so n c] W' fun e W2 => ∃ x st c F, e = .returned (.tuple #[.int .i64 x, .bool true]) ∧ Hid (Bd W2 db k 1048576 st c F ∧ Mv W' W2 Fp F) ∧ Hid (Fine k 1048576 100 st ∧ isN st.n x = true ∧ st.n ≤ 25600 ∧ 0 ≤ c ∧ c ≤ 100 ∧ ∀ β, ev st.L β x = atE β l)) :=
    fun W' db Fp so c hb hc hr hra hok => build_new hk8 hb hl hc (by omega) hr hra hok
  have HBN : Hid (∀ (W' : World) (db : Nat) (Fp : Nat → Prop) so c, Bd W' db k 1048576 st0 0 Fp → n ≤ c → SpRow W' so l → rightE k l = false → Calls Try.prog 35 #[.pointer (some ⟨db, 0, none⟩), .slice so n c] W' fun e W2 => e = .returned (.tuple #[.int .i64 0, .bool false]) ∧ Keeps (fun _ => False) W' W2) :=
    fun W' db Fp so c hb hc hr hok => build_no hb hl hc hr hok
  have HRA : Hid (∀ (W' : World) (q : Nat), q < 18446744073709551616 → Keeps (fun x => w.heap.size ≤ x) w W' → rightE k l = true → Calls Try.prog 31 #[.int .u64 q, .slice ao n cap] W' fun e W2 => e = .returned (.bool (atE q.testBit l)) ∧ Keeps (fun _ => False) W' W2) := fun W' q hq hk hok => rat19_spec W' hq hl hnc (hrow.old hk) hok
  have HL := Lib.hid lives19_any
  clear hrow hx0 hx1 hk hm
  go_enter Try.func10, Try.ntmps10
  go_upto_region 1 with fail
  go_cut [1] (fun t wx => t = .slice ao n cap ∧ wx = w)
  case first =>
    by_cases h40 : na ≤ 40
    · have h40I : (na : Int) ≤ 40 := by omega
      have e : n = na := by omega
      go_wp2_with fail
      all_goals (go_meet; refine ⟨?_, rfl⟩; rw [e])
    · have h40I : ¬ (na : Int) ≤ 40 := by omega
      have e : n = 40 := by omega
      go_wp2_with fail
      all_goals (go_meet; refine ⟨?_, rfl⟩; rw [e])
  case rest =>
    obtain ⟨rfl, rfl⟩ := hcut
    clear hn hle
    go_wp2_with fail
    refine HN1.out.mono ?_
    rintro e w1 ⟨db, Fp, rfl, hd⟩
    clear HN1
    go_wp2_with fail
    refine (HST.out _ hd.out.2.1).mono ?_
    rintro e w2 ⟨so, c, rfl, hc, h2⟩
    have HB2 : Hid (Bd w2 db k 1048576 st0 0 Fp ∧ (∀ b off, so = some ⟨b, off, none⟩ → ¬ Fp b) ∧ Keeps (fun x => wc.heap.size ≤ x) wc w2 ∧ (∀ x, Fp x → wc.heap.size ≤ x) ∧ SpRow w2 so l) :=
      ⟨hd.out.1.quiet h2.out.1, fun b off e hF => by have h1 := h2.out.2.2 b off e; have := hd.out.1.lt b hF; omega, (hd.out.2.1.trans h2.out.1).mono (fun _ _ x => x.elim), hd.out.2.2, h2.out.2.1⟩
    clear hd h2 HST
    cases ho : rightE k l with
    | false =>
      rw [ho] at HRR
      have HC := Lib.hid (HBN.out w2 db Fp so c HB2.out.1 hc HB2.out.2.2.2.2 ho)
      clear HBY HBN HRA ho
      go_wp2_with fail
      refine HC.out.mono ?_
      rintro e w3 ⟨rfl, k3⟩
      have HK3 := Lib.hid (HB2.out.2.2.1.trans_new k3 (fun _ _ x => x.elim))
      clear HC HB2 k3
      go_wp2_with fail
      refine (HRR.out _ HK3.out).mono ?_
      rintro e w4 ⟨rfl, k4⟩
      have HK4 := Lib.hid (HK3.out.trans_new k4 (fun _ _ x => x.elim))
      clear HK3 k4 HRR
      go_wp2_with fail
      refine (HL.out w4).mono ?_
      rintro e w5 ⟨rfl, hb⟩
      go_wp2_with fail
      go_ret
      exact ⟨rfl, (HK4.out.below (Nat.le_refl _) (fun x hx hs => by omega)).trans (hb.mono HK4.out.size)⟩
    | true =>
      rw [ho] at HRR
      have HC := Lib.hid (HBY.out w2 db Fp so c HB2.out.1 hc HB2.out.2.2.2.2 HB2.out.2.1 ho)
      have HRA2 : Hid (∀ (W' : World) (q : Nat), q < 18446744073709551616 → Keeps (fun x => wc.heap.size ≤ x) wc W' → Calls Try.prog 31 #[.int .u64 q, .slice ao n cap] W' fun e W2 => e = .returned (.bool (atE q.testBit l)) ∧ Keeps (fun _ => False) W' W2) := fun W' q hq hk => HRA.out W' q hq hk ho
      clear HBY HBN HRA ho
      go_wp2_with fail
      refine HC.out.mono ?_
      rintro e w3 ⟨y, st, c3, F3, rfl, h3, HY⟩
      have hk3 := HB2.out.2.2.1.trans_new h3.out.2.keeps (fun i _ hx => HB2.out.2.2.2.1 i hx)
      have HK3 := Lib.hid hk3
      have hb3 := h3.out.1
      have HB3 := Lib.hid hb3
      clear HC HB2 h3 hk3 hb3
      go_wp2_with fail
      refine (HRR.out _ HK3.out).mono ?_
      rintro e w4 ⟨rfl, k4⟩
      have HB4 : Hid (Keeps (fun x => wc.heap.size ≤ x) wc w4 ∧ Bd w4 db k 1048576 st c3 F3) := ⟨HK3.out.trans_new k4 (fun _ _ x => x.elim), HB3.out.quiet k4⟩
      clear HK3 HB3 k4 HRR
      go_wp2_with fail
      go_loopg [41] m (fun g t wx => ∃ b : Nat, b ≤ m ∧ g = m - b ∧ t = .int .u64 b ∧ Hid (Keeps (fun x => wc.heap.size ≤ x) wc wx ∧ Bd wx db k 1048576 st c3 F3))
      case atStart => exact ⟨0, Nat.zero_le _, rfl, rfl, HB4⟩
      case round =>
        clear HB4
        obtain ⟨b, hb, rfl, rfl, HJ⟩ := hrel
        by_cases hlt : b < m
        · have hbI : (b : Int) < (m : Int) := by omega
          have hwb : IntKind.u64.wrap ((b : Int) + 1) = (b : Int) + 1 := IntWalk.u64_in _ (by omega)
          obtain ⟨v, hv⟩ : ∃ v, atE b.testBit l = v := ⟨_, rfl⟩
          have HA : Hid (Calls Try.prog 24 #[.pointer (some ⟨db, 0, none⟩), .int .i64 y, .int .u64 b] wr fun e w' => e = .returned (.bool v) ∧ Keeps (fun _ => False) wr w') := by
            have hy := isN_iff.1 HY.out.2.1
            have hnn := HY.out.2.2.1
            have q := bat_spec HJ.out.2 (by omega) (by omega) y (by omega) (by omega) b (by omega)
            rw [HY.out.2.1, Bool.true_and, HY.out.2.2.2.2.2 b.testBit, hv] at q
            exact q.mono fun e w' hh => ⟨hh.1, Keeps.of_below hh.2 (Nat.le_refl _)⟩
          have HA2 : Hid (∀ W', Keeps (fun x => wc.heap.size ≤ x) wc W' → Calls Try.prog 31 #[.int .u64 b, .slice ao n cap] W' fun e W2 => e = .returned (.bool v) ∧ Keeps (fun _ => False) W' W2) := fun W' hk => by
            have q := HRA2.out W' b (by omega) hk
            rw [hv] at q
            exact q
          clear hv
          go_wp2_with fail
          refine HA.out.mono ?_
          rintro e w5 ⟨rfl, k5⟩
          have HJ5 : Hid (Keeps (fun x => wc.heap.size ≤ x) wc w5 ∧ Bd w5 db k 1048576 st c3 F3) := ⟨HJ.out.1.trans_new k5 (fun _ _ x => x.elim), HJ.out.2.quiet k5⟩
          clear HA k5 HJ
          go_wp2_with fail
          refine (HA2.out w5 HJ5.out.1).mono ?_
          rintro e w6 ⟨rfl, k6⟩
          have HJ6 : Hid (Keeps (fun x => wc.heap.size ≤ x) wc w6 ∧ Bd w6 db k 1048576 st c3 F3) := ⟨HJ5.out.1.trans_new k6 (fun _ _ x => x.elim), HJ5.out.2.quiet k6⟩
          clear HA2 k6 HJ5
          go_wp2_with fail
          go_roundg (m - (b + 1))
          case measure => omega
          case rel => exact ⟨b + 1, by omega, rfl, by go_num, HJ6⟩
        · have hbI : ¬ (b : Int) < (m : Int) := by omega
          go_wp2_with fail
          refine (HL.out wr).mono ?_
          rintro e w5 ⟨rfl, hb5⟩
          go_wp2_with fail
          go_ret
          exact ⟨rfl, (HJ.out.1.below (Nat.le_refl _) (fun x hx hs => by omega)).trans (hb5.mono HJ.out.1.size)⟩
end Go.Proofs.Ytipcgjigkipcpaa
