/-
  The walk of the law NodeOnce.
-/
import Derived.Test.YtmljmpjpdgijlaaNodeBudgetWalk
set_option linter.unusedVariables false
set_option linter.unusedSimpArgs false
namespace Go.Proofs.Ytmljmpjpdgijlaa
open Go.ChangeShapes Go.WideShapes Go.ChangeAt Go.RowKit Go.Deep NodePlain

/-- Two nodes that are true at the same bits are one. -/
theorem once_plain {V : Int} {L : Nat → Nd} {n : Nat} (g : NodePlain.Good V L n) (K : Nat) (hV : V = (K : Int)) (a b : Nat) (ha : a < n + 2) (hb : b < n + 2) (h : ∀ j, j < 2 ^ K → ev L (Nat.testBit j) a = ev L (Nat.testBit j) b) : a = b := by
  have := canon g (n + 2) (a : Int) (b : Int) (by omega) (by omega) (by omega) (by omega) (by omega) (by omega) (fun β => by
    have e1 := ev_below g (b1 := β) (b2 := Nat.testBit (ofB β K)) (fun x hx => (ofB_test β K x (by omega)).symm) (n + 2) (a : Int) (by omega) (by omega)
    have e2 := ev_below g (b1 := β) (b2 := Nat.testBit (ofB β K)) (fun x hx => (ofB_test β K x (by omega)).symm) (n + 2) (b : Int) (by omega) (by omega)
    rw [e1, e2]
    exact h _ (ofB_lt β K))
  omega
/-- Are they the same at all bits below j? -/
def sameTo (L : Nat → Nd) (a b : Nat) : Nat → Bool
  | 0 => true
  | j + 1 => sameTo L a b j && (ev L (Nat.testBit j) a == ev L (Nat.testBit j) b)
theorem sameTo_iff (L : Nat → Nd) (a b : Nat) : ∀ j, sameTo L a b j = true → ∀ i, i < j → ev L (Nat.testBit i) a = ev L (Nat.testBit i) b
  | 0, _, i, h => absurd h (Nat.not_lt_zero _)
  | j + 1, h, i, hi => by
    unfold sameTo at h
    simp only [Bool.and_eq_true, beq_iff_eq] at h
    rcases Nat.lt_or_ge i j with h1 | h1
    · exact sameTo_iff L a b j h.1 i h1
    · obtain rfl : i = j := by omega
      exact h.2
theorem same_false {V : Int} {L : Nat → Nd} {n : Nat} (g : NodePlain.Good V L n) (K : Nat) (hV : V = (K : Int)) (a b : Nat) (ha : a < n + 2) (hb : b < a) : sameTo L a b (2 ^ K) = false := by
  cases h : sameTo L a b (2 ^ K) with
  | false => rfl
  | true => have := once_plain g K hV a b ha (by omega) (sameTo_iff L a b _ h); omega

set_option maxRecDepth 10000 in
theorem tmake_nil (w : World) (v lo hi : Int) : Calls Try.prog 32 #[.pointer none, .int .i64 v, .int .i64 lo, .int .i64 hi] w fun e w' => e = .returned (.tuple #[.int .i64 0, .int .i64 6]) ∧ w = w' := by
  go_enter Try.func32, Try.ntmps32
  go_wp2
  go_ret2
  exact ⟨rfl, rfl⟩
set_option maxRecDepth 10000 in
set_option maxHeartbeats 800000 in
theorem tvar_nil (w : World) : Calls Try.prog 39 #[.pointer none, .int .i64 1] w fun e w' => e = .returned (.int .i64 0) ∧ Below w.heap.size w w' := by
  go_enter Try.func39, Try.ntmps39
  go_wp2_with fail
  refine (tget_nil _ 1 (by omega) (by omega)).mono ?_
  rintro e w1 ⟨rfl, hb⟩
  simp only [ndCells, Option.getD_none, Option.isSome_none]
  go_wp2_with (go_at_call 36; refine (tvars_nil _).mono ?_; rintro e w' ⟨rfl, rfl⟩)
  go_ret
  exact ⟨rfl, hb.alloc hb.size _⟩
set_option maxRecDepth 10000 in
set_option maxHeartbeats 800000 in
theorem tat_nil0 (w : World) : Calls Try.prog 42 #[.pointer none, .int .i64 0, .int .u64 0] w fun e w' => e = .returned (.bool false) ∧ w = w' := by
  go_enter Try.func42, Try.ntmps42
  go_wp2_with fail
  refine (tis_nil _ 0 (by omega)).mono ?_
  rintro e w' ⟨rfl, rfl⟩
  rw [show isN 0 0 = true from rfl]
  go_wp2
  refine wp_loop_rounds 1 ?_
  rw [rounds_succ]
  go_wp2
  go_ret
  exact ⟨rfl, rfl⟩
set_option maxRecDepth 10000 in
set_option maxHeartbeats 800000 in
theorem tat_nil1 (w : World) : Calls Try.prog 42 #[.pointer none, .int .i64 1, .int .u64 0] w fun e w' => e = .returned (.bool true) ∧ w = w' := by
  go_enter Try.func42, Try.ntmps42
  go_wp2_with fail
  refine (tis_nil _ 1 (by omega)).mono ?_
  rintro e w' ⟨rfl, rfl⟩
  rw [show isN 0 1 = true from rfl]
  go_wp2
  refine wp_loop_rounds 1 ?_
  rw [rounds_succ]
  go_wp2
  go_ret
  exact ⟨rfl, rfl⟩

/-- One step of making nodes. -/
def LiveAny (w : World) (a : Nat) (V B : Int) (k : Nat) (wr : World) : Prop := ∃ (L : Nat → Nd) (c : Nat) (s : Bool), c ≤ k ∧ LiveTab w.heap.size w a V B L c s wr
theorem LiveTab.base {z : Nat} {w w1 : World} {b : Nat} {V B : Int} {L : Nat → Nd} {n : Nat} {s : Bool} (h : LiveTab z w b V B L n s w1) : Below z w w1 := by
  obtain ⟨bp, M, vn, P, t, b0, f⟩ := h
  exact b0
theorem LiveTab.keeps {z : Nat} {w w1 w2 : World} {b : Nat} {V B : Int} {L : Nat → Nd} {n : Nat} {s : Bool} (h : LiveTab z w b V B L n s w1) (hz : z ≤ w1.heap.size) (hk : Keeps (fun _ => False) w1 w2) : LiveTab z w b V B L n s w2 := by
  obtain ⟨bp, M, vn, P, t, b0, f⟩ := h
  exact ⟨bp, M, vn, P, t.keeps hk (fun _ _ x => x), b0.trans (hk.below hz (fun _ _ x => x)), f⟩
theorem LiveTab.good {z : Nat} {w w1 : World} {b : Nat} {V B : Int} {L : Nat → Nd} {n : Nat} {s : Bool} (h : LiveTab z w b V B L n s w1) : NodePlain.Good V L n := by
  obtain ⟨bp, M, vn, P, t, b0, f⟩ := h
  exact t.good
theorem LiveAny.make {w w1 : World} {a : Nat} {V B : Int} {k : Nat} (h : LiveAny w a V B k w1) (hk : k ≤ 1000000) (v lo hi : Int) (hv0 : -9223372036854775808 ≤ v) (hv1 : v ≤ 9223372036854775807) (hl0 : -9223372036854775808 ≤ lo) (hl1 : lo ≤ 9223372036854775807) (hh0 : -9223372036854775808 ≤ hi) (hh1 : hi ≤ 9223372036854775807) :
    Calls Try.prog 32 #[.pointer (some ⟨a, 0, none⟩), .int .i64 v, .int .i64 lo, .int .i64 hi] w1 fun e w2 => (∃ x y : Int, e = .returned (.tuple #[.int .i64 x, .int .i64 y])) ∧ LiveAny w a V B (k + 1) w2 := by
  obtain ⟨L, c, s, hc, t⟩ := h
  refine (t.make (t.size (Nat.le_refl _)) (by omega) v lo hi hv0 hv1 hl0 hl1 hh0 hh1).mono ?_
  rintro e w2 ⟨rfl, t2⟩
  refine ⟨⟨_, _, rfl⟩, _, _, _, ?_, t2⟩
  generalize resN V B L c v lo hi = r
  cases r <;> simp only [Res.len] <;> omega
theorem LiveAny.keeps {w w1 w2 : World} {a : Nat} {V B : Int} {k : Nat} (h : LiveAny w a V B k w1) (hk : Keeps (fun _ => False) w1 w2) : LiveAny w a V B k w2 := by
  obtain ⟨L, c, s, hc, t⟩ := h
  exact ⟨L, c, s, hc, t.keeps (t.size (Nat.le_refl _)) hk⟩
theorem LiveAny.base {w w1 : World} {a : Nat} {V B : Int} {k : Nat} (h : LiveAny w a V B k w1) : Below w.heap.size w w1 := by
  obtain ⟨L, c, s, hc, t⟩ := h
  exact t.base

set_option maxRecDepth 100000 in
set_option maxHeartbeats 3200000 in
theorem nodeOnce_core (w : World) (x : Int) (hx0 : 0 ≤ x) (hx1 : x ≤ 18446744073709551615) (ao : Option Addr) (n cap : Nat) (G : Nat → Nat → Value) (R : IsRow w [.int .i64, .int .i64, .int .i64] ao n cap G) :
    Calls Try.prog 8 #[.int .u64 x, .slice ao n cap] w fun e w' => e = .returned (.bool true) ∧ Below w.heap.size w w' := by
  have hcap := R.le
  have hmax := R.max
  unfold maxLen at hmax
  obtain ⟨Z, hZ, hA⟩ := R.nodes
  have HZ := Lib.hid hZ; have HA := Lib.hid hA
  clear R hZ hA
  obtain ⟨K, hK, hK6⟩ : ∃ K : Nat, x.tmod 7 = (K : Int) ∧ K ≤ 6 := ⟨(x % 7).toNat, by rw [Int.tmod_eq_emod_of_nonneg hx0]; omega, by omega⟩
  go_enter Try.func8, Try.ntmps8
  go_upto_region 1 with fail
  go_cut [1] (fun s wx => ∃ m : Nat, s = .slice ao m cap ∧ m ≤ n ∧ m ≤ 40 ∧ w = wx)
  case first =>
    go_wp2
    all_goals (go_meet; first | exact ⟨n, rfl, by omega, by omega, rfl⟩ | exact ⟨40, rfl, by omega, by omega, rfl⟩)
  case rest =>
    obtain ⟨m, rfl, hmn, hm40, rfl⟩ := hcut
    clear hcap
    go_wp2_with fail
    clear hK hx0 hx1
    refine (newLive (K : Int) 1000 (K : Int) 1000 (by omega) (by omega) _).mono ?_
    rintro e w1 ⟨rfl, t1⟩
    have T1 : Hid (LiveAny w w.heap.size (K : Int) 1000 0 w1) := ⟨_, _, _, Nat.le_refl _, t1⟩
    clear t1
    go_wp2_with fail
    go_loopg [30] m (fun g s wr => ∃ k : Nat, k ≤ m ∧ g = m - k ∧ s = .int .i64 k ∧ Hid (LiveAny w w.heap.size (K : Int) 1000 k wr))
    case atStart => exact ⟨0, Nat.zero_le _, rfl, rfl, T1.out⟩
    case round =>
      obtain ⟨k, hk, rfl, rfl, ht⟩ := hrel
      by_cases hlt : k < m
      · obtain ⟨bl, off, rfl, hbl, hcells⟩ := HA.out (by omega)
        obtain ⟨r0, r1, r2⟩ := hcells k (by omega)
        obtain ⟨z0, z1, z2⟩ := HZ.out k (by omega)
        have hbb := ht.out.base
        rw [← hbb.cell (p := ⟨bl, _, none⟩) hbl] at r0 r1 r2
        obtain ⟨⟨v0, v1, v2⟩, hLi⟩ : ∃ p, p = Z k := ⟨_, rfl⟩
        rw [← hLi] at r0 r1 r2 z0 z1 z2
        simp only [] at r0 r1 r2 z0 z1 z2
        obtain ⟨z00, z01⟩ := z0; obtain ⟨z10, z11⟩ := z1; obtain ⟨z20, z21⟩ := z2
        clear hcells hLi hbb
        have HT1 := Lib.hid (ht.out.keeps ((Keeps.refl (fun _ => False) wr).alloc (.cells #[.int .i64 v0, .int .i64 v1, .int .i64 v2] 58)))
        clear ht
        go_wp2_with fail
        refine (LiveAny.make HT1.out (by omega) v0 v1 v2 z00 z01 z10 z11 z20 z21).mono ?_
        rintro e w2 ⟨⟨ra, rb, rfl⟩, t2⟩
        clear HT1 r0 r1 r2
        have T2 := Lib.hid t2
        clear t2
        go_wp2_with fail
        go_roundg (m - (k + 1))
        case measure => omega
        case rel => exact ⟨k + 1, by omega, rfl, by go_num, T2.out⟩
      · have T2 := Lib.hid ht.out
        clear ht T1 HA HZ
        obtain ⟨L, c, s, hc, t2⟩ := T2.out
        have hc40 : c ≤ 40 := by omega
        have HG := Lib.hid t2.good
        have T3 := Lib.hid t2
        clear t2 T2 hc hm40 hmn hmax
        go_wp2_with fail
        refine (T3.out.len (by omega)).mono ?_
        rintro e w2 ⟨rfl, rfl⟩
        go_wp2_with fail
        go_loopg [46] (c + 2) (fun g s' wr' => ∃ a : Nat, a ≤ c + 2 ∧ g = c + 2 - a ∧ s' = .int .i64 a ∧ Hid (LiveTab w.heap.size w w.heap.size (K : Int) 1000 L c s wr'))
        case atStart => exact ⟨0, Nat.zero_le _, rfl, rfl, T3.out⟩
        case round =>
          clear T3
          obtain ⟨a, ha, rfl, rfl, t3⟩ := hrel
          by_cases hla : a < c + 2
          · have hlaI : (a : Int) < (c : Int) + 2 := by omega
            go_wp2_with fail
            go_loopg [50] a (fun g s' wr'' => ∃ b : Nat, b ≤ a ∧ g = a - b ∧ s' = .int .i64 b ∧ Hid (LiveTab w.heap.size w w.heap.size (K : Int) 1000 L c s wr''))
            case atStart => exact ⟨0, Nat.zero_le _, rfl, rfl, t3.out⟩
            case round =>
              clear t3
              obtain ⟨b, hb, rfl, rfl, t4⟩ := hrel
              by_cases hlb : b < a
              · obtain ⟨N, hN⟩ : ∃ N, N = 2 ^ K := ⟨_, rfl⟩
                have hw : IntKind.u64.wrap ((2 : Int) ^ K) = (N : Int) := by
                  rw [hN]
                  rcases (by omega : K = 0 ∨ K = 1 ∨ K = 2 ∨ K = 3 ∨ K = 4 ∨ K = 5 ∨ K = 6) with rfl | rfl | rfl | rfl | rfl | rfl | rfl <;> decide
                have hN64 : N ≤ 64 := by
                  rw [hN]
                  rcases (by omega : K = 0 ∨ K = 1 ∨ K = 2 ∨ K = 3 ∨ K = 4 ∨ K = 5 ∨ K = 6) with rfl | rfl | rfl | rfl | rfl | rfl | rfl <;> decide
                have hsf := same_false HG.out K rfl a b (by omega) hlb
                rw [← hN] at hsf
                have HSF := Lib.hid hsf
                clear hN hsf
                go_wp2_with fail
                clear hw
                go_loopg [11, 55] N (fun g sm s' wr3 => ∃ j : Nat, j ≤ N ∧ g = N - j ∧ sm = .bool (sameTo L a b j) ∧ s' = .int .u64 j ∧ Hid (LiveTab w.heap.size w w.heap.size (K : Int) 1000 L c s wr3))
                case atStart => exact ⟨0, Nat.zero_le _, rfl, rfl, rfl, t4.out⟩
                case round =>
                  clear t4
                  obtain ⟨j, hj, rfl, rfl, rfl, t5⟩ := hrel
                  by_cases hlj : j < N
                  · cases hsm : sameTo L a b j with
                    | false =>
                      have hs1 : sameTo L a b (j + 1) = false := by unfold sameTo; rw [hsm]; rfl
                      have HS1 := Lib.hid hs1
                      clear hs1 hsm
                      go_wp2_with fail
                      go_roundg (N - (j + 1))
                      case measure => omega
                      case rel => exact ⟨j + 1, by omega, rfl, by rw [HS1.out], by go_num, t5.out⟩
                    | true =>
                      have hs1 : sameTo L a b (j + 1) = (ev L (Nat.testBit j) a == ev L (Nat.testBit j) b) := by
                        show (sameTo L a b j && _) = _
                        rw [hsm, Bool.true_and]
                      have HA1 : Hid (∀ W, LiveTab w.heap.size w w.heap.size (K : Int) 1000 L c s W → ∀ k : Nat, k < c + 2 → Calls Try.prog 42 #[.pointer (some ⟨w.heap.size, 0, none⟩), .int .i64 k, .int .u64 j] W fun e w2 => e = .returned (.bool (ev L (Nat.testBit j) k)) ∧ LiveTab w.heap.size w w.heap.size (K : Int) 1000 L c s w2) := fun W hW k hk => by
                        have := hW.at (hW.size (Nat.le_refl _)) (by omega) (by omega) (k : Int) (by omega) (by omega) j (by omega)
                        rw [show isN c (k : Int) = true from by simp [isN]; omega, Bool.true_and] at this
                        exact this
                      generalize hx : ev L (Nat.testBit j) (a : Int) = xa at hs1
                      generalize hy : ev L (Nat.testBit j) (b : Int) = xb at hs1
                      have HX := Lib.hid hx; have HY := Lib.hid hy
                      have HS1 := Lib.hid hs1
                      clear hs1 hsm hx hy
                      go_wp2_with fail
                      refine (HA1.out _ t5.out a hla).mono ?_
                      rintro e w4 ⟨rfl, t6⟩
                      rw [HX.out]
                      have T6 := Lib.hid t6
                      clear t6 t5
                      go_wp2_with fail
                      refine (HA1.out _ T6.out b (by omega)).mono ?_
                      rintro e w5 ⟨rfl, t7⟩
                      rw [HY.out]
                      have T7 := Lib.hid t7
                      clear t7 T6
                      go_wp2_with fail
                      go_roundg (N - (j + 1))
                      case measure => omega
                      case rel => exact ⟨j + 1, by omega, rfl, by rw [HS1.out], by go_num, T7.out⟩
                  · obtain rfl : j = N := by omega
                    rw [HSF.out]
                    go_wp2_with fail
                    go_roundg (a - (b + 1))
                    case measure => omega
                    case rel => exact ⟨b + 1, by omega, rfl, by go_num, t5.out⟩
              · go_wp2_with fail
                go_roundg (c + 2 - (a + 1))
                case measure => omega
                case rel => exact ⟨a + 1, by omega, rfl, by go_num, t4.out⟩
          · go_wp2_with fail
            refine (tmake_nil _ 0 0 1).mono ?_
            rintro e w3 ⟨rfl, rfl⟩
            go_wp2_with fail
            refine (tget_nil _ 2 (by omega) (by omega)).mono ?_
            rintro e w3 ⟨rfl, hb1⟩
            simp only [ndCells, Option.getD_none, Option.isSome_none]
            have b1 : Below w.heap.size w w3 := (t3.out.keeps (t3.out.size (Nat.le_refl _)) (Keeps.of_below (S := fun _ => False) hb1 (Nat.le_refl _))).base
            have B1 := Lib.hid b1
            clear b1 hb1 t3
            go_wp2_with fail
            refine (tlen_nil _).mono ?_
            rintro e w4 ⟨rfl, rfl⟩
            go_wp2_with fail
            refine (tvars_nil _).mono ?_
            rintro e w4 ⟨rfl, rfl⟩
            go_wp2_with fail
            refine (tspent_nil _).mono ?_
            rintro e w4 ⟨rfl, rfl⟩
            go_wp2_with fail
            refine (tis_nil _ 1 (by omega)).mono ?_
            rintro e w4 ⟨rfl, rfl⟩
            rw [show isN 0 1 = true from rfl]
            go_wp2_with fail
            refine (tis_nil _ 2 (by omega)).mono ?_
            rintro e w4 ⟨rfl, rfl⟩
            rw [show isN 0 2 = false from rfl]
            go_wp2_with fail
            refine (tat_nil1 _).mono ?_
            rintro e w4 ⟨rfl, rfl⟩
            go_wp2_with fail
            refine (tat_nil0 _).mono ?_
            rintro e w4 ⟨rfl, rfl⟩
            go_wp2_with fail
            refine (tvar_nil _).mono ?_
            rintro e w4 ⟨rfl, hb2⟩
            have b2 : Hid (Below w.heap.size w w4) := (B1.out.alloc B1.out.size _).trans (hb2.mono (by simp; have := B1.out.size; omega))
            clear hb2 B1
            go_wp2_with fail
            refine (lives_any _).mono ?_
            rintro e w5 ⟨rfl, hb3⟩
            have b3 : Hid (Below w.heap.size w w5) := b2.out.trans (hb3.mono b2.out.size)
            clear hb3 b2
            go_wp2_with fail
            go_ret
            exact ⟨rfl, b3.out⟩
end Go.Proofs.Ytmljmpjpdgijlaa
