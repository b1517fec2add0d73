/-
  The walk of the law OrderTells.
-/
import Derived.Test.YteafdigmgenfhaaOrdBits
import Derived.Test.YteafdigmgenfhaaOrdLives
set_option linter.unusedVariables false
set_option linter.unusedSimpArgs false
set_option linter.unnecessarySimpa false
namespace Go.Proofs.Yteafdigmgenfhaa
open Go.ChangeShapes Go.WideShapes Go.ChangeAt Go.RowKit Go.Deep NodePlain
/-- The first so many numbers of a row. -/
theorem IsRow.intsTo {w : World} {ao : Option Addr} {n cap : Nat} {G : Nat → Nat → Value} (R : IsRow w [.int .i64] ao n cap G) {m : Nat} (hm : m ≤ n) : ∃ l : List Int, l.length = m ∧ ReadsI w (.slice ao m cap) l := by
  have key : ∀ i, i < n → ∃ x : Int, G i 0 = .int .i64 x := fun i hi => by
    obtain ⟨z, h, _⟩ := R.ok i 0 _ hi rfl
    exact ⟨z, h⟩
  obtain ⟨f, hf⟩ := choose_lt key
  refine ⟨(List.range m).map f, by simp, ao, cap, by simp, by have := R.le; simp; omega, fun h0 => ?_⟩
  have h0' : 0 < m := by simpa using h0
  obtain ⟨b, off, h1, h2, h3⟩ := R.at_ (show 0 < n by omega)
  refine ⟨b, off, h1, h2, fun j x hj => ?_⟩
  rw [List.getElem?_map] at hj
  rcases Nat.lt_or_ge j m with hl | hl
  · rw [List.getElem?_range hl] at hj
    simp only [Option.map_some, Option.some.injEq] at hj
    subst hj
    rw [← hf j (by omega)]
    have q := h3 j 0 (by omega) (by decide)
    simpa using q
  · rw [List.getElem?_eq_none (by simpa using hl)] at hj; cases hj
set_option maxRecDepth 100000
set_option maxHeartbeats 1600000
theorem orderTells_walk (w : World) (ao : Option Addr) (na capa : Nat) (Ga : Nat → Nat → Value) (Ra : IsRow w [.int .i64] ao na capa Ga) (bo : Option Addr) (nb capb : Nat) (Gb : Nat → Nat → Value) (Rb : IsRow w [.int .i64] bo nb capb Gb) (x : Int) (hx0 : 0 ≤ x) (hx1 : x ≤ 18446744073709551615) :
    Calls Try.prog 3 #[.slice ao na capa, .slice bo nb capb, .int .u64 x] w fun e w' => e = .returned (.bool true) ∧ Below w.heap.size w w' := by
  obtain ⟨X, rfl⟩ := Int.eq_ofNat_of_zero_le hx0
  obtain ⟨n, hn⟩ : ∃ n, n = min na 70 := ⟨_, rfl⟩
  obtain ⟨m, hm⟩ : ∃ m, m = min nb 70 := ⟨_, rfl⟩
  have hnI : min (na : Int) 70 = (n : Int) := by omega
  have hmI : min (nb : Int) 70 = (m : Int) := by omega
  have hna : n ≤ na := by omega
  have hmb : m ≤ nb := by omega
  have hla := Ra.le
  have hlb := Rb.le
  clear hn hm
  go_enter Try.func3, Try.ntmps3
  go_upto_region 1 with fail
  go_cut [0, 1] (fun a b wx => a = .slice ao n capa ∧ b = .slice bo m capb ∧ ∃ nq, wx = w.drewN nq)
  case first =>
    go_quiet (fail)
    go_wp2_with fail
    all_goals (go_meet; refine ⟨?_, ?_, _, rfl⟩ <;> (simp only [Value.slice.injEq, true_and, and_true]; omega))
  case rest =>
    obtain ⟨rfl, rfl, nq, rfl⟩ := hcut
    obtain ⟨la, hll, hra0⟩ := Ra.intsTo hna
    obtain ⟨lb, hlm, hrb0⟩ := Rb.intsTo hmb
    have hk1 : Keeps (fun _ => False) w (w.drewN nq) := (Keeps.refl _ _).drewN nq
    have hra := hra0.keeps hk1
    have hrb := hrb0.keeps hk1
    have HK1 := Lib.hid hk1
    generalize w.drewN nq = w1 at *
    have hn70 : n ≤ 70 := by omega
    have hm70 : m ≤ 70 := by omega
    have hX : X < 18446744073709551616 := by omega
    have HRA := Lib.hid hra
    have HRB := Lib.hid hrb
    have HLL := Lib.hid hll
    have HLM := Lib.hid hlm
    have HA1 : Hid (∀ W', Keeps (fun _ => False) w1 W' → Calls Try.prog 5 #[.int .i64 n, .slice ao n capa] W' fun e w' => e = .returned (.bool (ordB n la)) ∧ W' = w') := fun W' hk => lright_any (hra.keeps hk) (by omega) (by omega)
    have HA2 : Hid (∀ W', Keeps (fun _ => False) w1 W' → Calls Try.prog 5 #[.int .i64 n, .slice bo m capb] W' fun e w' => e = .returned (.bool (ordB n lb)) ∧ W' = w') := fun W' hk => lright_any (hrb.keeps hk) (by omega) (by omega)
    have HA3 : Hid (∀ W', Keeps (fun _ => False) w1 W' → Calls Try.prog 5 #[.int .i64 m, .slice ao n capa] W' fun e w' => e = .returned (.bool (ordB m la)) ∧ W' = w') := fun W' hk => lright_any (hra.keeps hk) (by omega) (by omega)
    have HA4 : Hid (∀ W', Keeps (fun _ => False) w1 W' → Calls Try.prog 8 #[.int .i64 n, .slice ao n capa] W' fun e w' => e = .returned (.bool (ordB n la)) ∧ W' = w') := fun W' hk => oright_spec (by omega) (by omega) (hra.keeps hk) (by omega)
    have HA5 : Hid (∀ W', Keeps (fun _ => False) w1 W' → Calls Try.prog 8 #[.int .i64 m, .slice ao n capa] W' fun e w' => e = .returned (.bool (ordB m la)) ∧ W' = w') := fun W' hk => oright_spec (by omega) (by omega) (hra.keeps hk) (by omega)
    have HA6 : Hid (∀ W', Keeps (fun _ => False) w1 W' → Calls Try.prog 9 #[.int .u64 X, .slice ao n capa] W' fun e w' => e = .returned (.int .u64 ((if ordB n la then bitsL X la n else 0 : Nat) : Int)) ∧ W' = w') := fun W' hk => bits_spec hX (hra.keeps hk) hll (by omega)
    have HL := Lib.hid lives37_any
    clear hra0 hrb0 hra hrb hll hlm hk1 Ra Rb hx0 hx1 hnI hmI hna hmb hla hlb
    generalize ordB m la = o3 at HA3 HA5
    cases ho : ordB n la with
    | false =>
      rw [ho] at HA1 HA4 HA6
      have HBK := Lib.hid (back_no HRA.out HLL.out (by omega) ho)
      have HTH := Lib.hid (then_no HRA.out HRB.out HLL.out HLM.out (by omega) (by omega) (by rw [ho]; rfl))
      have HA6' : Hid (∀ W', Keeps (fun _ => False) w1 W' → Calls Try.prog 9 #[.int .u64 X, .slice ao n capa] W' fun e w' => e = .returned (.int .u64 0) ∧ W' = w') := HA6.out
      clear ho HA2 HA6
      go_wp2_with fail
      refine (HA1.out _ (Keeps.refl _ _)).mono ?_
      rintro e w' ⟨rfl, rfl⟩
      go_wp2_with fail
      refine (HA1.out _ (Keeps.refl _ _)).mono ?_
      rintro e w' ⟨rfl, rfl⟩
      go_wp2_with fail
      refine HBK.out.mono ?_
      rintro e w' ⟨rfl, rfl⟩
      go_wp2_with fail
      refine HTH.out.mono ?_
      rintro e w' ⟨rfl, rfl⟩
      go_wp2_with fail
      refine (HA4.out _ (Keeps.refl _ _)).mono ?_
      rintro e w' ⟨rfl, rfl⟩
      go_wp2_with fail
      refine (HA5.out _ (Keeps.refl _ _)).mono ?_
      rintro e w' ⟨rfl, rfl⟩
      go_wp2_with fail
      refine (HA3.out _ (Keeps.refl _ _)).mono ?_
      rintro e w' ⟨rfl, rfl⟩
      go_wp2_with fail
      refine (HA6'.out _ (Keeps.refl _ _)).mono ?_
      rintro e w' ⟨rfl, rfl⟩
      go_wp2_with fail
      refine (HL.out _).mono ?_
      rintro e w' ⟨rfl, hb⟩
      go_wp2_with fail
      go_ret
      exact ⟨rfl, (HK1.out.below (Nat.le_refl _) (fun _ _ x => x)).trans (hb.mono HK1.out.size)⟩
    | true =>
      rw [ho, if_pos rfl] at HA6
      rw [ho] at HA1 HA4
      have HO := Lib.hid ho
      have HBK := Lib.hid (back_yes HRA.out HLL.out (by omega) ho)
      have hn61 : n ≤ 61 := by have := (ordB_iff.1 ho).2.1; omega
      cases hob : ordB n lb with
      | false =>
        rw [hob] at HA2
        have HTH : Hid (∀ W', Keeps (fun _ => False) w1 W' → Calls Try.prog 7 #[.slice ao n capa, .slice bo m capb] W' fun e w' => e = .returned (.slice none 0 0) ∧ W' = w') := fun W' hk => then_no (HRA.out.keeps hk) (HRB.out.keeps hk) HLL.out HLM.out (by omega) (by omega) (by rw [ho, hob]; rfl)
        clear ho hob
        go_wp2_with fail
        refine (HA1.out _ (Keeps.refl _ _)).mono ?_
        rintro e w' ⟨rfl, rfl⟩
        go_wp2_with fail
        refine (HA1.out _ (Keeps.refl _ _)).mono ?_
        rintro e w' ⟨rfl, rfl⟩
        go_wp2_with fail
        refine (HA2.out _ (Keeps.refl _ _)).mono ?_
        rintro e w' ⟨rfl, rfl⟩
        go_wp2_with fail
        refine HBK.out.mono ?_
        rintro e w2 ⟨F, hF, b2, rfl, h2⟩
        have HK2 : Hid (Keeps (fun _ => False) w1 w2) := h2.out.2.1
        clear HBK
        go_wp2_with fail
        refine (HTH.out _ HK2.out).mono ?_
        rintro e w3 ⟨rfl, rfl⟩
        have HS : Hid (Keeps (fun _ => False) w1 w2 ∧ IRow w2 b2 n F) := ⟨HK2.out, h2.out.2.2⟩
        clear HTH h2
        go_wp2_with fail
        refine (HA4.out _ HS.out.1).mono ?_
        rintro e w' ⟨rfl, rfl⟩
        go_wp2_with fail
        refine (HA5.out _ HS.out.1).mono ?_
        rintro e w' ⟨rfl, rfl⟩
        go_wp2_with fail
        refine (HA3.out _ HS.out.1).mono ?_
        rintro e w' ⟨rfl, rfl⟩
        go_wp2_with fail
        go_loopg [11, 89] n (fun g want t wy => ∃ i M : Nat, i ≤ n ∧ g = n - i ∧ want = .int .u64 M ∧ t = .int .i64 i ∧ Hid (bitsL X la i = M) ∧ Hid (Keeps (fun _ => False) w2 wy))
        case atStart => exact ⟨0, 0, Nat.zero_le _, rfl, rfl, rfl, rfl, Keeps.refl _ _⟩
        case round =>
          obtain ⟨i, M, hi, rfl, rfl, rfl, HM, HW⟩ := hrel
          by_cases hlt : i < n
          · have hiI : (i : Int) < (n : Int) := by omega
            have hwi : IntKind.i64.wrap ((i : Int) + 1) = (i : Int) + 1 := IntWalk.i64_in _ (by omega)
            obtain ⟨k, hk, hkx⟩ := ord_get HO.out hlt
            obtain ⟨ao', capa', hea, hca, hra⟩ := (HRA.out.keeps HS.out.1).keeps HW.out
            rw [HLL.out] at hea hca hra
            simp only [Value.slice.injEq, true_and] at hea
            obtain ⟨rfl, rfl⟩ := hea
            obtain ⟨ga, offa, rfl, hga, hcell⟩ := hra (by omega)
            have ca := hcell i k hkx
            have hicap : i < capa := by omega
            have hkI : (k : Int) < (n : Int) := by omega
            have hk0 : (0 : Int) ≤ (k : Int) := by omega
            have cb := (HS.out.2.keeps HW.out (fun x => x)).cell hk
            rw [hF.out i k hlt hkx] at cb
            have hMl : M < 18446744073709551616 := by rw [← HM.out]; exact bitsL_lt X (fun x hx => by have := (ordB_iff.1 HO.out).2.2.2.1 x hx; omega) i
            have hsh := shr_test X i hX
            have hpw := pow_bit (v := k) (by omega)
            have hor := u64_or_nat M (2 ^ k) hMl (by have : 2 ^ k < 2 ^ 61 := Nat.pow_lt_pow_right (by decide) (by omega); omega)
            have hget : (la.getD i 0).toNat = k := by rw [List.getD_eq_getElem?_getD, hkx]; simp
            have hb0 : bitsL X la (i + 1) = M ||| (if X.testBit i then 2 ^ k else 0) := by
              show bitsL X la i ||| _ = _
              rw [HM.out, hget]
            have HW2 : Hid (∀ q, Keeps (fun _ => False) w2 (wr.drewN q)) := fun q => HW.out.drewN q
            clear hcell hkx hra hget HW HM
            cases hbit : X.testBit i with
            | true =>
              rw [hbit] at hsh hb0
              rw [if_pos rfl] at hb0
              have HN := Lib.hid hb0
              generalize M ||| 2 ^ k = M2 at HN hor
              obtain ⟨Z, hZ⟩ : ∃ Z, 2 ^ k = Z := ⟨_, rfl⟩
              rw [hZ] at hpw hor
              clear hb0 hbit hZ
              go_upto_region 12 with fail
              go_quiet (fail)
              go_wp2_with fail
              go_roundg (n - (i + 1))
              case measure => omega
              case rel => exact ⟨i + 1, M2, by omega, rfl, by go_num, by go_num, HN.out, HW2.out _⟩
            | false =>
              rw [hbit] at hsh hb0
              rw [if_neg (by decide), Nat.or_zero] at hb0
              have HN := Lib.hid hb0
              clear hb0 hbit hpw hor
              go_upto_region 12 with fail
              go_quiet (fail)
              go_wp2_with fail
              go_roundg (n - (i + 1))
              case measure => omega
              case rel => exact ⟨i + 1, M, by omega, rfl, by go_num, by go_num, HN.out, HW2.out _⟩
          · have hin : i = n := by omega
            have hMn : bitsL X la n = M := by rw [← hin]; exact HM.out
            rw [hMn] at HA6
            have hiI : ¬ (i : Int) < (n : Int) := by omega
            have HKW : Hid (Keeps (fun _ => False) w1 wr) := HS.out.1.trans HW.out
            clear hin hMn hi hlt HM
            go_wp2_with fail
            refine (HA6.out _ HKW.out).mono ?_
            rintro e w' ⟨rfl, rfl⟩
            go_wp2_with fail
            refine (HL.out _).mono ?_
            rintro e w' ⟨rfl, hb⟩
            go_wp2_with fail
            go_ret
            have kw := HK1.out.trans HKW.out
            exact ⟨rfl, (kw.below (Nat.le_refl _) (fun _ _ x => x)).trans (hb.mono kw.size)⟩
      | true =>
        rw [hob] at HA2
        have hmn : m = n := by have := (ordB_iff.1 hob).2.2.1; have := HLM.out; omega
        subst hmn
        have HTH : Hid (∀ W', Keeps (fun _ => False) w1 W' → Calls Try.prog 7 #[.slice ao m capa, .slice bo m capb] W' fun e W2 => ∃ G, Hid (Behind la lb G m) ∧ IPost m G W' e W2) := fun W' hk => then_yes (HRA.out.keeps hk) (HRB.out.keeps hk) HLL.out HLM.out (by omega) ho hob
        have HOB := Lib.hid hob
        clear ho hob
        go_wp2_with fail
        refine (HA1.out _ (Keeps.refl _ _)).mono ?_
        rintro e w' ⟨rfl, rfl⟩
        go_wp2_with fail
        refine (HA1.out _ (Keeps.refl _ _)).mono ?_
        rintro e w' ⟨rfl, rfl⟩
        go_wp2_with fail
        refine (HA2.out _ (Keeps.refl _ _)).mono ?_
        rintro e w' ⟨rfl, rfl⟩
        go_wp2_with fail
        refine HBK.out.mono ?_
        rintro e w2 ⟨F, hF, b2, rfl, h2⟩
        have HK2 : Hid (Keeps (fun _ => False) w1 w2) := h2.out.2.1
        clear HBK
        go_wp2_with fail
        refine (HTH.out _ HK2.out).mono ?_
        rintro e w3 ⟨G, hG, b3, rfl, h3⟩
        have HS : Hid (Keeps (fun _ => False) w1 w3 ∧ IRow w3 b2 m F ∧ IRow w3 b3 m G) := ⟨HK2.out.trans h3.out.2.1, h2.out.2.2.keeps h3.out.2.1 (fun x => x), h3.out.2.2⟩
        clear HTH h2 h3 HK2
        go_wp2_with fail
        refine (HA4.out _ HS.out.1).mono ?_
        rintro e w' ⟨rfl, rfl⟩
        go_wp2_with fail
        refine (HA5.out _ HS.out.1).mono ?_
        rintro e w' ⟨rfl, rfl⟩
        go_wp2_with fail
        refine (HA3.out _ HS.out.1).mono ?_
        rintro e w' ⟨rfl, rfl⟩
        go_wp2_with fail
        go_loopg [11, 89] m (fun g want t wy => ∃ i M : Nat, i ≤ m ∧ g = m - i ∧ want = .int .u64 M ∧ t = .int .i64 i ∧ Hid (bitsL X la i = M) ∧ Hid (Keeps (fun _ => False) w3 wy))
        case atStart => exact ⟨0, 0, Nat.zero_le _, rfl, rfl, rfl, rfl, Keeps.refl _ _⟩
        case round =>
          obtain ⟨i, M, hi, rfl, rfl, rfl, HM, HW⟩ := hrel
          by_cases hlt : i < m
          · have hiI : (i : Int) < (m : Int) := by omega
            have hwi : IntKind.i64.wrap ((i : Int) + 1) = (i : Int) + 1 := IntWalk.i64_in _ (by omega)
            obtain ⟨k, hk, hkx⟩ := ord_get HO.out hlt
            obtain ⟨ao', capa', hea, hca, hra⟩ := (HRA.out.keeps HS.out.1).keeps HW.out
            rw [HLL.out] at hea hca hra
            simp only [Value.slice.injEq, true_and] at hea
            obtain ⟨rfl, rfl⟩ := hea
            obtain ⟨ga, offa, rfl, hga, hcell⟩ := hra (by omega)
            have ca := hcell i k hkx
            have hicap : i < capa := by omega
            have hkI : (k : Int) < (m : Int) := by omega
            have hk0 : (0 : Int) ≤ (k : Int) := by omega
            have cb := (HS.out.2.1.keeps HW.out (fun x => x)).cell hk
            rw [hF.out i k hlt hkx] at cb
            obtain ⟨y, hy, hyx⟩ := ord_get HOB.out hk
            obtain ⟨bo', capb', heb, hcb, hrb⟩ := (HRB.out.keeps HS.out.1).keeps HW.out
            rw [HLM.out] at heb hcb hrb
            simp only [Value.slice.injEq, true_and] at heb
            obtain ⟨rfl, rfl⟩ := heb
            obtain ⟨gb, offb, rfl, hgb, hcellb⟩ := hrb (by omega)
            have cbb := hcellb k y hyx
            have hkcap : k < capb := by omega
            have ct := (HS.out.2.2.keeps HW.out (fun x => x)).cell hlt
            rw [hG.out i k y hlt hkx hyx] at ct
            clear hcellb hyx hrb
            have hMl : M < 18446744073709551616 := by rw [← HM.out]; exact bitsL_lt X (fun x hx => by have := (ordB_iff.1 HO.out).2.2.2.1 x hx; omega) i
            have hsh := shr_test X i hX
            have hpw := pow_bit (v := k) (by omega)
            have hor := u64_or_nat M (2 ^ k) hMl (by have : 2 ^ k < 2 ^ 61 := Nat.pow_lt_pow_right (by decide) (by omega); omega)
            have hget : (la.getD i 0).toNat = k := by rw [List.getD_eq_getElem?_getD, hkx]; simp
            have hb0 : bitsL X la (i + 1) = M ||| (if X.testBit i then 2 ^ k else 0) := by
              show bitsL X la i ||| _ = _
              rw [HM.out, hget]
            have HW2 : Hid (∀ q, Keeps (fun _ => False) w3 (wr.drewN q)) := fun q => HW.out.drewN q
            clear hcell hkx hra hget HW HM
            cases hbit : X.testBit i with
            | true =>
              rw [hbit] at hsh hb0
              rw [if_pos rfl] at hb0
              have HN := Lib.hid hb0
              generalize M ||| 2 ^ k = M2 at HN hor
              obtain ⟨Z, hZ⟩ : ∃ Z, 2 ^ k = Z := ⟨_, rfl⟩
              rw [hZ] at hpw hor
              clear hb0 hbit hZ
              go_upto_region 12 with fail
              go_quiet (fail)
              go_wp2_with fail
              go_roundg (m - (i + 1))
              case measure => omega
              case rel => exact ⟨i + 1, M2, by omega, rfl, by go_num, by go_num, HN.out, HW2.out _⟩
            | false =>
              rw [hbit] at hsh hb0
              rw [if_neg (by decide), Nat.or_zero] at hb0
              have HN := Lib.hid hb0
              clear hb0 hbit hpw hor
              go_upto_region 12 with fail
              go_quiet (fail)
              go_wp2_with fail
              go_roundg (m - (i + 1))
              case measure => omega
              case rel => exact ⟨i + 1, M, by omega, rfl, by go_num, by go_num, HN.out, HW2.out _⟩
          · have hin : i = m := by omega
            have hMn : bitsL X la m = M := by rw [← hin]; exact HM.out
            rw [hMn] at HA6
            have hiI : ¬ (i : Int) < (m : Int) := by omega
            have HKW : Hid (Keeps (fun _ => False) w1 wr) := HS.out.1.trans HW.out
            clear hin hMn hi hlt HM
            go_wp2_with fail
            refine (HA6.out _ HKW.out).mono ?_
            rintro e w' ⟨rfl, rfl⟩
            go_wp2_with fail
            refine (HL.out _).mono ?_
            rintro e w' ⟨rfl, hb⟩
            go_wp2_with fail
            go_ret
            have kw := HK1.out.trans HKW.out
            exact ⟨rfl, (kw.below (Nat.le_refl _) (fun _ _ x => x)).trans (hb.mono kw.size)⟩
end Go.Proofs.Yteafdigmgenfhaa
