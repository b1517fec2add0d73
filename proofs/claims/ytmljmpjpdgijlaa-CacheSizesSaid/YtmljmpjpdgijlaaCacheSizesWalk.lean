/-
  The walk of the law CacheSizes.
-/
import Derived.Test.YtmljmpjpdgijlaaCacheSpec
import Derived.Test.YtmljmpjpdgijlaaCachePlain
import Derived.Deep.DeepCutAuto
import Derived.Deep.LoopGhost
import Derived.Deep.Light
namespace Go.Proofs.Ytmljmpjpdgijlaa
open Go.RowKit Go.Deep CachePlain

/-- The places, behind k puts. -/
def FOf (sl : Int → Nat) (Z : Nat → Int) (k : Nat) : Nat → Option (CKey × Int) := fun s => (putsTo sl Z k s).map (fun z => ((1, z, 0, 0), z))
def slN (N : Nat) : Int → Nat := fun z => slotOf N 1 z 0 0
theorem FOf_zero (sl : Int → Nat) (Z : Nat → Int) : FOf sl Z 0 = fun _ => none := rfl
theorem FOf_succ (N : Nat) (Z : Nat → Int) (k : Nat) : keep N (FOf (slN N) Z k) 1 (Z k) 0 0 (Z k) = FOf (slN N) Z (k + 1) := by
  funext s
  show (if s = slN N (Z k) then some ((1, Z k, 0, 0), Z k) else FOf (slN N) Z k s) = FOf (slN N) Z (k + 1) s
  unfold FOf
  rw [putsTo]
  by_cases h : s = slN N (Z k) <;> simp [h]
theorem look_FOf (N : Nat) (Z : Nat → Int) (k : Nat) (z : Int) : look N (FOf (slN N) Z k) 1 z 0 0 = if putsTo (slN N) Z k (slN N z) = some z then some z else none := by
  show lookAt ((putsTo (slN N) Z k (slN N z)).map (fun z => ((1, z, 0, 0), z))) (1, z, 0, 0) = _
  generalize putsTo (slN N) Z k (slN N z) = p
  cases p with
  | none => rfl
  | some y =>
    by_cases h : y = z
    · subst h; simp [lookAt]
    · simp [lookAt, h]

theorem PowFor.want {sz : Int} {N : Nat} (h : PowFor sz N) (hs : sz ≤ (N : Int) ∨ 65536 ≤ N) :
    (max 1 (min sz 65536) ≤ (N : Int)) ∧ (1 < N → ((N / 2 : Nat) : Int) < max 1 (min sz 65536)) := by
  have hb := h.bounds
  refine ⟨by omega, fun h1 => ?_⟩
  rcases h.half with h2 | ⟨M, rfl, h2⟩ <;> omega
theorem PowFor.and {sz : Int} {N : Nat} (h : PowFor sz N) : bits BinOp.and IntKind.i64 (N : Int) ((N : Int) - 1) = 0 := by
  obtain ⟨j, hj, rfl, _⟩ := h
  have : ∀ j : Nat, j ≤ 16 → bits BinOp.and IntKind.i64 ((2 ^ j : Nat) : Int) (((2 ^ j : Nat) : Int) - 1) = 0 := by
    intro j hj
    obtain rfl | rfl | rfl | rfl | rfl | rfl | rfl | rfl | rfl | rfl | rfl | rfl | rfl | rfl | rfl | rfl | rfl : j = 0 ∨ j = 1 ∨ j = 2 ∨ j = 3 ∨ j = 4 ∨ j = 5 ∨ j = 6 ∨ j = 7 ∨ j = 8 ∨ j = 9 ∨ j = 10 ∨ j = 11 ∨ j = 12 ∨ j = 13 ∨ j = 14 ∨ j = 15 ∨ j = 16 := by omega
    all_goals decide +kernel
  exact this j hj

set_option maxRecDepth 100000 in
set_option maxHeartbeats 1600000 in
theorem cacheSizes_walk (w : World) (sz : Int) (hs0 : -9223372036854775808 ≤ sz) (hs1 : sz ≤ 9223372036854775807) (ao : Option Addr) (n cap : Nat) (G : Nat → Nat → Value) (R : IsRow w [.int .i64] ao n cap G) :
    Calls Try.prog 4 #[.int .i64 sz, .slice ao n cap] w fun e w' => e = .returned (.bool true) ∧ Below w.heap.size w w' := by
  have hcap := R.le
  have hmax := R.max
  unfold maxLen at hmax
  obtain ⟨Z, hZ, hA⟩ := R.ints
  have HZ := Lib.hid hZ; have HA := Lib.hid hA
  clear R hZ hA
  go_enter Try.func4, Try.ntmps4
  go_upto_region 1 with fail
  go_cut [1] (fun s wx => ∃ m : Nat, s = .slice ao m cap ∧ m ≤ n ∧ m ≤ 60 ∧ w = wx)
  case first =>
    go_wp2
    all_goals (go_meet; first | exact ⟨n, rfl, by omega, by omega, rfl⟩ | exact ⟨60, rfl, by omega, by omega, rfl⟩)
  case rest =>
    obtain ⟨m, rfl, hmn, hm60, rfl⟩ := hcut
    go_wp2_with fail
    refine (cacheNew_any sz _).mono ?_
    rintro e w1 ⟨N, b, bp, rfl, h1, h2, hP, hs, hb, hc⟩
    have HP := Lib.hid hP; have HS := Lib.hid hs; clear hP hs
    go_upto_region 4 with (go_at_call 15; refine (size_spec _ hc).mono ?_; rintro e w' ⟨rfl, rfl⟩)
    go_cut [7] (fun s wx => ∃ W : Int, s = .int .i64 W ∧ W ≤ (N : Int) ∧ (1 < N → ((N / 2 : Nat) : Int) < W) ∧ w1 = wx)
    case first =>
      go_wp2
      all_goals (go_meet; have hw := HP.out.want HS.out; refine ⟨_, rfl, ?_, ?_, rfl⟩ <;> omega)
    case rest =>
      obtain ⟨W, rfl, hW1, hW2, rfl⟩ := hcut
      have hand := HP.out.and
      have hbd := HP.out.bounds
      obtain ⟨hN1, hN2⟩ := hbd
      go_upto_region 5 with fail
      go_cut [49] (fun t wx => t = .bool false ∧ w1 = wx)
      case first =>
        by_cases hN : 1 < N
        · have h5 : (N : Int) / 2 < W := by have := hW2 hN; omega
          clear hW2
          go_wp2
          go_meet
          exact ⟨by congr 1; simp; omega, rfl⟩
        · clear hW2
          go_wp2
          go_meet
          exact ⟨by congr 1; simp; omega, rfl⟩
      case rest =>
        obtain ⟨rfl, rfl⟩ := hcut
        clear hW1 hW2 hand
        go_wp2_with fail
        have hc' : CacheAt w1 b bp N 0 (FOf (slN N) Z 0) := hc
        clear hc
        go_loopw [52] (fun i wr => ∃ k : Nat, k ≤ m ∧ i = .int .i64 k ∧ CacheAt wr b bp N 0 (FOf (slN N) Z k) ∧ Below w.heap.size w wr) (fun i _ => m - (intOf i).toNat)
        case atStart => exact ⟨0, Nat.zero_le _, rfl, hc', hb⟩
        case round =>
          obtain ⟨k, hk, rfl, hck, hbk⟩ := hrel
          by_cases hlt : k < m
          · obtain ⟨bK, off, rfl, hbl, hcell⟩ := HA.out (by omega)
            have hz := HZ.out k (by omega)
            have hcx : wr.cell? ⟨bK, off + k, none⟩ = some (.int .i64 (Z k)) := (hbk.cell hbl).trans (hcell k (by omega))
            clear hcell
            go_wp2_with (go_at_call 16; refine (put_spec _ _ _ _ _ _ hck).mono ?_; rintro e w' ⟨rfl, k2, c2⟩)
            go_roundw
            case rel => exact ⟨k + 1, by omega, by go_num, by rw [← FOf_succ]; exact c2, hbk.trans (k2.below (by have := hbk.size; omega) (fun i hi h => by omega))⟩
            case measure => simp [intOf]; omega
          · obtain rfl : k = m := by omega
            clear hlt hk
            go_wp2_with fail
            go_loopw [63, 10] (fun i c wr => ∃ (a : Nat) (hits : Int), a ≤ k ∧ i = .int .i64 a ∧ c = .int .i64 (cntTo (slN N) Z k a) ∧ CacheAt wr b bp N hits (FOf (slN N) Z k) ∧ 0 ≤ hits ∧ hits ≤ a ∧ Below w.heap.size w wr) (fun i _ _ => k - (intOf i).toNat)
            case atStart => exact ⟨0, 0, Nat.zero_le _, rfl, rfl, hck, by omega, by omega, hbk⟩
            case round =>
              clear hck hbk
              obtain ⟨a, hits, ha, rfl, rfl, hca, hh0, hh1, hba⟩ := hrel
              have hcl := cntTo_le (slN N) Z k a
              by_cases hlt : a < k
              · obtain ⟨bK, off, rfl, hbl, hcell⟩ := HA.out (by omega)
                have hz := HZ.out a (by omega)
                have hcx : wr.cell? ⟨bK, off + a, none⟩ = some (.int .i64 (Z a)) := (hba.cell hbl).trans (hcell a (by omega))
                have HC := Lib.hid hcell
                clear hcell
                go_wp2_with fail
                go_loop [72, 13] (fun j t => ∃ c : Nat, c ≤ a ∧ j = .int .i64 c ∧ t = .bool (twiceTo Z a c)) (fun j _ => a - (intOf j).toNat)
                case atStart => exact ⟨0, Nat.zero_le _, rfl, rfl⟩
                case round =>
                  obtain ⟨c, hc, rfl, rfl⟩ := hrel
                  by_cases hlt2 : c < a
                  · have hcy : wr.cell? ⟨bK, off + c, none⟩ = some (.int .i64 (Z c)) := (hba.cell hbl).trans (HC.out c (by omega))
                    have hstep : twiceTo Z a (c + 1) = (twiceTo Z a c || Z c == Z a) := rfl
                    have HSt := Lib.hid hstep; clear hstep
                    cases ht : twiceTo Z a c with
                    | true =>
                      rw [ht] at HSt
                      go_wp2
                      go_round
                      case rel => exact ⟨c + 1, by omega, by go_num, by rw [HSt.out]; rfl⟩
                      case measure => simp [intOf]; omega
                    | false =>
                      rw [ht] at HSt
                      go_wp2
                      go_round
                      case rel => exact ⟨c + 1, by omega, by go_num, by rw [HSt.out]; rfl⟩
                      case measure => simp [intOf]; omega
                  · obtain rfl : c = a := by omega
                    have hl := look_FOf N Z k (Z c)
                    have hsucc : cntTo (slN N) Z k (c + 1) = cntTo (slN N) Z k c + if putsTo (slN N) Z k (slN N (Z c)) = some (Z c) ∧ twiceTo Z c c = false then 1 else 0 := rfl
                    have HS1 := Lib.hid hsucc; clear hsucc
                    have fin : ∀ w2, Keeps (fun i => i = b) wr w2 → Below w.heap.size w w2 := fun w2 k2 => hba.trans (k2.below (by have := hba.size; omega) (fun i hi h => by omega))
                    by_cases hp : putsTo (slN N) Z k (slN N (Z c)) = some (Z c)
                    · rw [if_pos hp] at hl
                      have GP := get_spec 1 (Z c) 0 0 wr hca hh0 (by omega)
                      rw [hl] at GP
                      have GP := Lib.hid GP
                      rename_i GP0
                      clear GP0
                      cases ht : twiceTo Z c c with
                      | true =>
                        rw [if_neg (by rw [ht]; simp)] at HS1
                        go_wp2_with (go_at_call 17; refine GP.out.mono ?_; rintro e w2 ⟨rfl, k2, c2⟩)
                        go_roundw
                        case rel => exact ⟨c + 1, hits + 1, by omega, by go_num, by rw [HS1.out]; rfl, c2, by omega, by omega, fin _ k2⟩
                        case measure => simp [intOf]; omega
                      | false =>
                        rw [if_pos ⟨hp, ht⟩] at HS1
                        go_wp2_with (go_at_call 17; refine GP.out.mono ?_; rintro e w2 ⟨rfl, k2, c2⟩)
                        go_roundw
                        case rel => exact ⟨c + 1, hits + 1, by omega, by go_num, by rw [HS1.out]; go_num, c2, by omega, by omega, fin _ k2⟩
                        case measure => simp [intOf]; omega
                    · rw [if_neg hp] at hl
                      rw [if_neg (fun h => hp h.1)] at HS1
                      have GP := get_spec 1 (Z c) 0 0 wr hca hh0 (by omega)
                      rw [hl] at GP
                      have GP := Lib.hid GP
                      rename_i GP0
                      clear GP0
                      go_wp2_with (go_at_call 17; refine GP.out.mono ?_; rintro e w2 ⟨rfl, k2, c2⟩)
                      go_roundw
                      case rel => exact ⟨c + 1, hits, by omega, by go_num, by rw [HS1.out]; rfl, c2, by omega, by omega, fin _ k2⟩
                      case measure => simp [intOf]; omega
              · obtain rfl : a = k := by omega
                have hc1 := cnt_le (slN N) N (fun x => slotOf_lt N 1 x 0 0 hca.pos) Z a a
                have hc2 : 0 < a → 0 < cntTo (slN N) Z a a := cnt_pos (slN N) Z a
                by_cases h0 : a = 0
                · subst h0
                  go_wp2_with (go_at_call 18; refine (lives15_any _).mono ?_; rintro e w' ⟨rfl, hbl⟩)
                  go_ret
                  exact ⟨rfl, hba.trans (hbl.mono hba.size)⟩
                · have hc3 := hc2 (by omega)
                  clear hc2
                  go_wp2_with (go_at_call 18; refine (lives15_any _).mono ?_; rintro e w' ⟨rfl, hbl⟩)
                  go_ret
                  exact ⟨rfl, hba.trans (hbl.mono hba.size)⟩
end Go.Proofs.Ytmljmpjpdgijlaa
