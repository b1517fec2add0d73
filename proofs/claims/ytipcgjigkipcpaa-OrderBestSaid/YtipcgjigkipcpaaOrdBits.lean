/-
  Orders: where bits come, two neighbours changed, and whether two are the same.
-/
import Derived.Test.YtipcgjigkipcpaaOrdMore
set_option linter.unusedVariables false
set_option linter.unusedSimpArgs false
set_option linter.unnecessarySimpa false
namespace Go.Proofs.Ytipcgjigkipcpaa
open Go.ChangeShapes Go.WideShapes Go.ChangeAt Go.RowKit Go.Deep NodePlain
theorem and_one (X i : Nat) (hX : X < 18446744073709551616) : bits BinOp.and IntKind.u64 ((X : Int) / 2 ^ i) 1 = if X.testBit i then 1 else 0 := by
  have e1 : ((X : Int) / 2 ^ i) = ((X / 2 ^ i : Nat) : Int) := by simp
  have hle : X / 2 ^ i < 18446744073709551616 := Nat.lt_of_le_of_lt (Nat.div_le_self _ _) hX
  have e2 := u64_and_nat (X / 2 ^ i) 1 hle (by decide)
  rw [e1]
  rw [show (1 : Int) = ((1 : Nat) : Int) from rfl, e2, Nat.and_one_is_mod, Nat.testBit_eq_decide_div_mod_eq]
  have h2 : X / 2 ^ i % 2 = 0 ∨ X / 2 ^ i % 2 = 1 := by omega
  rcases h2 with h | h <;> rw [h] <;> simp
set_option maxRecDepth 100000
set_option maxHeartbeats 1600000
theorem bits_spec {W : World} {X : Nat} (hX : X < 18446744073709551616) {v : Value} {l : List Int} {n : Nat} (h : ReadsI W v l) (hl : l.length = n) (hn : n ≤ 1000) :
    Calls Try.prog 25 #[.int .u64 X, v] W fun e W' => e = .returned (.int .u64 ((if ordB n l then bitsL X l n else 0 : Nat) : Int)) ∧ W = W' := by
  have HC0 := oright_spec (vars := (n : Int)) (by omega) (by omega) h (by omega)
  obtain ⟨ao, cap, rfl, hcap, hr⟩ := h
  rw [hl] at *
  cases ho : ordB n l with
  | false =>
    rw [ho] at HC0
    have HC := Lib.hid HC0
    clear HC0 ho hr
    rw [if_neg (by decide)]
    go_enter Try.func25, Try.ntmps25
    go_wp2_with fail
    refine HC.out.mono ?_
    rintro e w' ⟨rfl, rfl⟩
    go_wp2_with fail
    go_ret
    exact ⟨rfl, rfl⟩
  | true =>
    rw [ho] at HC0
    have HC := Lib.hid HC0
    have HR := Lib.hid hr
    have HO := Lib.hid ho
    have HL := Lib.hid hl
    have hn61 : n ≤ 61 := by have := (ordB_iff.1 ho).2.1; omega
    have HT : Hid (∀ i, bitsL X l i < 18446744073709551616) := bitsL_lt X fun x hx => by have := (ordB_iff.1 ho).2.2.2.1 x hx; omega
    clear HC0 ho hr hl
    rw [if_pos rfl]
    go_enter Try.func25, Try.ntmps25
    go_wp2_with fail
    refine HC.out.mono ?_
    rintro e w' ⟨rfl, rfl⟩
    clear HC
    go_wp2_with fail
    go_loopg [4, 14] n (fun g s t wy => ∃ (i M : Nat), i ≤ n ∧ g = n - i ∧ s = .int .u64 M ∧ t = .int .i64 i ∧ Hid (bitsL X l i = M) ∧ wy = W)
    case atStart => exact ⟨0, 0, Nat.zero_le _, rfl, rfl, rfl, rfl, rfl⟩
    case round =>
      obtain ⟨i, M, hi, rfl, rfl, rfl, HM, rfl⟩ := hrel
      by_cases hlt : i < n
      · have hiI : (i : Int) < (n : Int) := by omega
        obtain ⟨bb, off, rfl, hb, hc⟩ := HR.out (by omega)
        obtain ⟨k, hk, hx⟩ := ord_get HO.out hlt
        have c := hc i k hx
        have hicap : i < cap := by omega
        have hk0 : (0 : Int) ≤ (k : Int) := by omega
        have hMl : M < 18446744073709551616 := by rw [← HM.out]; exact HT.out i
        have hpw := pow_bit (v := k) (by omega)
        have hor := u64_or_nat M (2 ^ k) hMl (by have : 2 ^ k < 2 ^ 61 := Nat.pow_lt_pow_right (by decide) (by omega); omega)
        have hor0 := u64_or_nat M 0 hMl (by decide)
        rw [Nat.or_zero] at hor0
        have hand := and_one X i hX
        have hget : (l.getD i 0).toNat = k := by rw [List.getD_eq_getElem?_getD, hx]; simp
        have hb0 : bitsL X l (i + 1) = M ||| (if X.testBit i then 2 ^ k else 0) := by
          show bitsL X l i ||| _ = _
          rw [HM.out, hget]
        cases hbit : X.testBit i with
        | true =>
          rw [hbit, if_pos rfl] at hand hb0
          have HN := Lib.hid hb0
          generalize M ||| 2 ^ k = M2 at HN hor
          obtain ⟨Z, hZ⟩ : ∃ Z, 2 ^ k = Z := ⟨_, rfl⟩
          rw [hZ] at hpw hor
          clear hc hx hb0 hget hor0 hbit hZ
          go_wp2_with fail
          go_roundg (n - (i + 1))
          case measure => omega
          case rel => exact ⟨i + 1, M2, by omega, rfl, by go_num, by go_num, HN.out, rfl⟩
        | false =>
          rw [hbit, if_neg (by decide)] at hand hb0
          rw [Nat.or_zero] at hb0
          have HN := Lib.hid hb0
          have hor0' : bits BinOp.or IntKind.u64 (M : Int) 0 = (M : Int) := hor0
          clear hc hx hb0 hget hor hor0 hpw hbit
          go_wp2_with fail
          go_roundg (n - (i + 1))
          case measure => omega
          case rel => exact ⟨i + 1, M, by omega, rfl, by go_num, by go_num, HN.out, rfl⟩
      · obtain rfl : i = n := by omega
        have hiI : ¬ (i : Int) < (i : Int) := by omega
        go_wp2_with fail
        go_ret
        rw [HM.out]
        exact ⟨rfl, rfl⟩
/-- All as it is, but two neighbours. -/
def swF (n : Nat) (i : Int) (k : Nat) : Int := if 0 ≤ i ∧ i < (n : Int) - 1 then (if (k : Int) = i then i + 1 else if (k : Int) = i + 1 then i else k) else k
theorem swap_no {W : World} {vars i : Int} (h : vars < 0 ∨ 61 < vars) : Calls Try.prog 84 #[.int .i64 vars, .int .i64 i] W fun e W' => e = .returned (.slice none 0 0) ∧ W = W' := by
  by_cases h0 : vars < 0
  · clear h
    go_enter Try.func84, Try.ntmps84
    go_wp2_with fail
    go_ret
    exact ⟨rfl, rfl⟩
  · have h1 : 61 < vars := by omega
    clear h
    go_enter Try.func84, Try.ntmps84
    go_wp2_with fail
    go_ret
    exact ⟨rfl, rfl⟩
theorem swap_spec {W : World} {n : Nat} {i : Int} (hn : n ≤ 61) (hi0 : -9223372036854775808 ≤ i) (hi1 : i ≤ 9223372036854775807) : Calls Try.prog 84 #[.int .i64 n, .int .i64 i] W (IPost n (swF n i) W) := by
  have HS := Lib.hid (stay_spec W n (by omega))
  have hw : IntKind.i64.wrap ((n : Int) - 1) = (n : Int) - 1 := IntWalk.i64_in _ (by omega)
  have hg0 : ¬ (n : Int) < 0 := by omega
  have hg1 : ¬ 61 < (n : Int) := by omega
  have hg2 : ¬ 61 < n := by omega
  by_cases h0 : i < 0
  · have HF : Hid (∀ j : Nat, (j : Int) = swF n i j) := fun j => by unfold swF; rw [if_neg (by omega)]
    have h0' : ¬ (0 ≤ i) := by omega
    go_enter Try.func84, Try.ntmps84
    go_wp2_with fail
    refine HS.out.mono ?_
    rintro e w' ⟨b, rfl, hb⟩
    go_wp2_with fail
    go_ret
    exact ⟨b, rfl, hb.out.1, hb.out.2.1, hb.out.2.2.congr (fun j _ => HF.out j)⟩
  have h0' : 0 ≤ i := by omega
  by_cases h1 : i < (n : Int) - 1
  · obtain ⟨p, rfl⟩ := Int.eq_ofNat_of_zero_le h0'
    have hp : p + 1 < n := by omega
    have hpn : p < n := by omega
    have hpI : (p : Int) < (n : Int) := by omega
    have hpI2 : (p : Int) + 1 < (n : Int) := by omega
    have hw2 : IntKind.i64.wrap ((p : Int) + 1) = (p : Int) + 1 := IntWalk.i64_in _ (by omega)
    go_enter Try.func84, Try.ntmps84
    go_wp2_with fail
    refine HS.out.mono ?_
    rintro e w' ⟨b, rfl, hb⟩
    have HB := Lib.hid hb.out.1
    have HK := Lib.hid hb.out.2.1
    have HD := Lib.hid hb.out.2.2
    have c1 := HD.out.cell hpn
    have c2 := HD.out.cell hp
    have f1 := free_of_heap HD.out p
    have f2 := free_of_heap HD.out (p + 1)
    have lb := lt_of_heap HD.out
    have HN : Hid (Keeps (fun _ => False) W ((w'.setCell ⟨b, p, none⟩ (.int .i64 ((p : Int) + 1))).setCell ⟨b, p + 1, none⟩ (.int .i64 p)).drew ∧ IRow ((w'.setCell ⟨b, p, none⟩ (.int .i64 ((p : Int) + 1))).setCell ⟨b, p + 1, none⟩ (.int .i64 p)).drew b n (swF n p)) := by
      have hb := HB.out
      have hI : IRow ((w'.setCell ⟨b, p, none⟩ (.int .i64 ((p : Int) + 1))).setCell ⟨b, p + 1, none⟩ (.int .i64 p)) b n (swF n p) := by
        refine ((HD.out.set hpn _).set hp _).congr fun j _ => ?_
        have hc : 0 ≤ (p : Int) ∧ (p : Int) < (n : Int) - 1 := ⟨by omega, h1⟩
        unfold swF
        rw [if_pos hc]
        show (if j = p + 1 then (p : Int) else if j = p then (p : Int) + 1 else (j : Int)) = _
        clear h1 hc
        by_cases e1 : j = p
        · rw [if_neg (by omega), if_pos e1, if_pos (by omega)]
        · rw [if_neg (show ¬ ((j : Int) = (p : Int)) by omega)]
          by_cases e2 : j = p + 1
          · rw [if_pos e2, if_pos (by omega)]
          · rw [if_neg e2, if_neg e1, if_neg (by omega)]
      exact ⟨((HK.out.setCell (fun h => by simp only [] at h; omega) _).setCell (fun h => by simp only [] at h; omega) _).drew, hI.keeps (S := fun _ => False) ((Keeps.refl _ _).drew) (fun x => x)⟩
    clear hb HS HK HD
    go_upto_region 5 with fail
    go_cut [5] (fun t wx => t = .slice (some ⟨b, 0, none⟩) n n ∧ Hid (Keeps (fun _ => False) W wx ∧ IRow wx b n (swF n p)))
    case first =>
      clear hi0 hi1 h0' h1
      go_region_with (fail)
      all_goals (go_wp2_with fail; go_meet; exact ⟨rfl, HN.out.1, HN.out.2⟩)
    case rest =>
      obtain ⟨rfl, hE⟩ := hcut
      go_wp2_with fail
      go_ret
      exact ⟨b, rfl, HB.out, hE.out.1, hE.out.2⟩
  · have HF : Hid (∀ j : Nat, (j : Int) = swF n i j) := fun j => by unfold swF; rw [if_neg (by omega)]
    go_enter Try.func84, Try.ntmps84
    go_wp2_with fail
    refine HS.out.mono ?_
    rintro e w' ⟨b, rfl, hb⟩
    go_wp2_with fail
    go_ret
    exact ⟨b, rfl, hb.out.1, hb.out.2.1, hb.out.2.2.congr (fun j _ => HF.out j)⟩
theorem isame_spec {w : World} {u v : Value} {a b : List Int} (hu : ReadsI w u a) (hv : ReadsI w v b) (ha : a.length ≤ 1000000) (hb : b.length ≤ 1000000) (hab : a = b) :
    Calls Try.prog 49 #[u, v] w fun e w' => e = .returned (.bool true) ∧ ∃ nq, w' = w.drewN nq := by
  subst hab
  obtain ⟨au, cu, rfl, hcu0, hru⟩ := hu
  obtain ⟨av, cv, rfl, hcv0, hrv⟩ := hv
  obtain ⟨n, hn⟩ : ∃ n, a.length = n := ⟨_, rfl⟩
  rw [hn] at hcu0 hcv0 hru hrv ha ⊢
  have HU := Lib.hid hru; have HV := Lib.hid hrv; have HN := Lib.hid hn
  clear hru hrv hn hb
  go_enter Try.func49, Try.ntmps49
  go_wp2_with fail
  go_loopg [13] n (fun g s wr => ∃ k nq : Nat, k ≤ n ∧ g = n - k ∧ s = .int .i64 k ∧ wr = w.drewN nq)
  case atStart => exact ⟨0, 0, Nat.zero_le _, rfl, rfl, rfl⟩
  case round =>
    obtain ⟨k, nq, hk, rfl, rfl, rfl⟩ := hrel
    by_cases hlt : k < n
    · obtain ⟨gu, ou, rfl, hgu, hcu⟩ := HU.out (by omega)
      obtain ⟨gv, ov, rfl, hgv, hcv⟩ := HV.out (by omega)
      obtain ⟨x, hx⟩ : ∃ x, a[k]? = some x := ⟨_, List.getElem?_eq_getElem (by rw [HN.out]; exact hlt)⟩
      have cu1 := hcu k x hx
      have cv1 := hcv k x hx
      have hkI : (k : Int) < (n : Int) := by omega
      have hku : k < cu := by omega
      have hkv : k < cv := by omega
      clear hcu hcv hx
      go_wp2_with fail
      go_quiet (fail)
      go_wp2_with fail
      go_roundg (n - (k + 1))
      case measure => omega
      case rel => exact ⟨k + 1, _, by omega, rfl, by go_num, rfl⟩
    · obtain rfl : k = n := by omega
      have hkI : ¬ (k : Int) < (k : Int) := by omega
      go_wp2_with fail
      go_ret
      exact ⟨rfl, _, rfl⟩
end Go.Proofs.Ytipcgjigkipcpaa
