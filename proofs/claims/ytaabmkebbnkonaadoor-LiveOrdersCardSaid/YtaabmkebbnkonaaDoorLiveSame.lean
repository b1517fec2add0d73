/-
  Rows of pairs and of rules that are the same; who is in.
-/
import Derived.Test.YtaabmkebbnkonaaDoorLiveLives
set_option linter.unusedVariables false
set_option linter.unusedSimpArgs false
set_option linter.unnecessarySimpa false
namespace Go.Proofs.YtaabmkebbnkonaaDoor
open Go.ChangeShapes Go.WideShapes Go.ChangeAt Go.RowKit Go.Deep SetPlain
theorem pair_neq (a0 a1 k0 k1 : Int) (w : World) :
    (binOp .neq 22 (.agg #[.int .i64 a0, .int .i64 a1]) (.agg #[.int .i64 k0, .int .i64 k1])).run Tryd.prog w = .ok (.bool (!decide ((a0, a1) = (k0, k1)))) w := by
  rw [run_neq_struct, pair_eqIn]; rfl
theorem rule_neq_same (k h w a b v : Int) (W : World) : (binOp .neq 29 (.agg #[.int .i64 k, .int .i64 h, .int .i64 w, .int .i64 a, .int .i64 b, .int .i64 v]) (.agg #[.int .i64 k, .int .i64 h, .int .i64 w, .int .i64 a, .int .i64 b, .int .i64 v])).run Tryd.prog W = .ok (.bool false) W := by
  have u3 := Tryd.underlying3
  have a3 := Tryd.isAgg3
  have z3 := Tryd.sizeOf3
  have hS : Tryd.prog.underlying 29 = some (.struct (Tryd.prog.fieldsOf 29)) := by kernel_rfl
  have hp : Tryd.prog.stoodInHeld 29 = false := by kernel_rfl
  rw [run_neq_struct, show (10000 : Nat) = 9999 + 1 from rfl, run_equalIn_agg W 9999 29 _ _ hS hp]
  simp only [Program.fieldsOf, Tryd.underlying29]
  go_simp
set_option maxRecDepth 100000
set_option maxHeartbeats 3200000
theorem psame_yes {w : World} {u v : Value} {L : List (Nat × Nat)} (hu : ReadsP w u L) (hv : ReadsP w v L) (hl : L.length ≤ 1000000) :
    Calls Tryd.prog 17 #[u, v] w fun e w' => e = .returned (.bool true) ∧ Hid (Keeps (fun _ => False) w w') := by
  obtain ⟨au, cu, rfl, _, hru⟩ := hu
  obtain ⟨av, cv, rfl, _, hrv⟩ := hv
  obtain ⟨n, hn⟩ : ∃ n, L.length = n := ⟨_, rfl⟩
  rw [hn] at hl hru hrv ⊢
  have HN := Lib.hid hn
  have HU := Lib.hid hru
  have HV := Lib.hid hrv
  clear hn hru hrv
  go_enter Tryd.func17, Tryd.ntmps17
  go_wp2_with fail
  go_loopg [13] n (fun g s wr => ∃ k nq : Nat, k ≤ n ∧ g = n - k ∧ s = .int .i64 k ∧ wr = w.drewN nq)
  case atStart => exact ⟨0, 0, Nat.zero_le _, rfl, rfl, rfl⟩
  case round =>
    obtain ⟨k, nq, hk, rfl, rfl, rfl⟩ := hrel
    by_cases hlt : k < n
    · obtain ⟨gu, ou, rfl, hgu, hcu⟩ := HU.out (by omega)
      obtain ⟨gv, ov, rfl, hgv, hcv⟩ := HV.out (by omega)
      obtain ⟨⟨x, y⟩, hxy⟩ : ∃ p, L[k]? = some p := ⟨_, List.getElem?_eq_getElem (by rw [HN.out]; exact hlt)⟩
      obtain ⟨u0, u1⟩ := hcu k _ hxy
      obtain ⟨v0, v1⟩ := hcv k _ hxy
      simp only [] at u0 u1 v0 v1
      have hkI : (k : Int) < (n : Int) := by omega
      have hwk : IntKind.i64.wrap ((k : Int) + 1) = (k : Int) + 1 := IntWalk.i64_in _ (by omega)
      have hne : ∀ W, (binOp .neq 22 (.agg #[.int .i64 (x : Int), .int .i64 (y : Int)]) (.agg #[.int .i64 (x : Int), .int .i64 (y : Int)])).run Tryd.prog W = .ok (.bool false) W := fun W => by rw [pair_neq]; simp
      clear hcu hcv hxy
      go_wp2_with fail
      go_quiet (fail)
      go_wp2_with fail
      go_roundg (n - (k + 1))
      case measure => omega
      case rel => exact ⟨k + 1, _, by omega, rfl, by go_num, rfl⟩
    · obtain rfl : k = n := by omega
      go_wp2
      go_ret
      exact ⟨rfl, (Keeps.refl _ _).drewN _⟩
theorem rsame_yes {w : World} {au av : Option Addr} {cu cv n : Nat} {L : List Rl} (hu : RuleRow w au L) (hv : RuleRow w av L) (hn : L.length = n) (hl : n ≤ 1000000) :
    Calls Tryd.prog 18 #[.slice au n cu, .slice av n cv] w fun e w' => e = .returned (.bool true) ∧ Hid (Keeps (fun _ => False) w w') := by
  have HN := Lib.hid hn
  have HU := Lib.hid hu
  have HV := Lib.hid hv
  clear hn hu hv
  go_enter Tryd.func18, Tryd.ntmps18
  go_wp2_with fail
  go_loopg [13] n (fun g s wr => ∃ k nq : Nat, k ≤ n ∧ g = n - k ∧ s = .int .i64 k ∧ wr = w.drewN nq)
  case atStart => exact ⟨0, 0, Nat.zero_le _, rfl, rfl, rfl⟩
  case round =>
    obtain ⟨k, nq, hk, rfl, rfl, rfl⟩ := hrel
    by_cases hlt : k < n
    · obtain ⟨gu, ou, rfl, hgu, hcu⟩ := HU.out (by rw [HN.out]; omega)
      obtain ⟨gv, ov, rfl, hgv, hcv⟩ := HV.out (by rw [HN.out]; omega)
      obtain ⟨r, hr⟩ : ∃ p, L[k]? = some p := ⟨_, List.getElem?_eq_getElem (by rw [HN.out]; exact hlt)⟩
      obtain ⟨u0, u1, u2, u3, u4, u5⟩ := hcu k _ hr
      obtain ⟨v0, v1, v2, v3, v4, v5⟩ := hcv k _ hr
      obtain ⟨x0, x1, x2, x3, x4, x5⟩ := r
      simp only [] at u0 u1 u2 u3 u4 u5 v0 v1 v2 v3 v4 v5
      have hkI : (k : Int) < (n : Int) := by omega
      have hwk : IntKind.i64.wrap ((k : Int) + 1) = (k : Int) + 1 := IntWalk.i64_in _ (by omega)
      have hne := fun W => rule_neq_same x0 x1 x2 x3 x4 x5 W
      clear hcu hcv hr
      go_wp2_with fail
      go_quiet (fail)
      go_wp2_with fail
      go_roundg (n - (k + 1))
      case measure => omega
      case rel => exact ⟨k + 1, _, by omega, rfl, by go_num, rfl⟩
    · obtain rfl : k = n := by omega
      go_wp2
      go_ret
      exact ⟨rfl, (Keeps.refl _ _).drewN _⟩
/-- Is it in? -/
theorem lin_spec {z : Nat} {W : World} {lb P K : Nat} {rs : List Rl} {Fp : Nat → Prop} (h : LvIs z W lb P K rs Fp) (i : Int) (c : Nat) (hc : c ≤ 1000000) :
    Calls Tryd.prog 21 #[.pointer (some ⟨lb, 0, none⟩), .int .i64 i, .int .i64 c] W fun e W' => ∃ b, e = .returned (.bool b) ∧ W = W' ∧ Hid (∃ In : Nat → Nat → Bool, b = hasB (P * K) P In i c ∧ ∀ i c, In i c = true ↔ i < P * K ∧ c < P ∧ Der K rs i c) := by
  obtain ⟨fb, bw, rb, v, In, tot, hL, _, hIn, _⟩ := h
  have HC := Lib.hid (fhas_spec hL.fam i (c : Int) (by omega) (by omega))
  have c0 := hL.cells.1
  have HP : Hid (∃ In2 : Nat → Nat → Bool, hasB (P * K) P In i c = hasB (P * K) P In2 i c ∧ ∀ i c, In2 i c = true ↔ i < P * K ∧ c < P ∧ Der K rs i c) := ⟨In, rfl, hIn⟩
  clear hL hIn
  go_enter Tryd.func21, Tryd.ntmps21
  go_wp2_with (go_at_call 32; refine HC.out.mono ?_; rintro e w' ⟨rfl, rfl⟩)
  clear HC
  go_ret
  exact ⟨_, rfl, rfl, HP⟩
end Go.Proofs.YtaabmkebbnkonaaDoor
