/-
  The document's digits and fresh texts.
-/
import Derived.Test.YtonkfkgbmlcceaaNameRef
import Derived.Test.YtonkfkgbmlcceaaNameFreshPlain
set_option linter.unusedVariables false
set_option linter.unusedSimpArgs false
set_option linter.unnecessarySimpa false
namespace Go.Proofs.Ytonkfkgbmlcceaa
open Go.ChangeShapes Go.WideShapes Go.ChangeAt Go.RowKit Go.Deep
set_option maxRecDepth 100000
set_option maxHeartbeats 3200000
theorem ref_dec (N : Nat) (hN : N ≤ 1000000) (W : World) :
    Calls Try.prog 32 #[.int .i64 (N : Int)] W fun e W' => e = .returned (.string ⟨(decL N).toArray⟩) ∧ Hid (Keeps (fun _ => False) W W') := by
  go_enter Try.func32, Try.ntmps32
  go_wp2_with fail
  go_loopg [0, 3, 4] 8 (fun g nv sv t wx => ∃ (i q : Nat) (s : Str), i < 7 ∧ q < 10 ^ (7 - i) ∧ g = 8 - i ∧ nv = .int .i64 q ∧ sv = .string ⟨s.toArray⟩ ∧ t = .int .i64 i ∧ s.length = i ∧ Hid (decL N = decL q ++ s) ∧ Hid (Keeps (fun _ => False) W wx))
  case atStart => exact ⟨0, N, [], by decide, by show N < 10000000; omega, rfl, rfl, rfl, rfl, rfl, Lib.hid (by simp), Keeps.refl _ _⟩
  case round =>
    obtain ⟨i, q, s, hi, hq, rfl, rfl, rfl, rfl, hsl, HD, HK⟩ := hrel
    have hiI : (i : Int) < 20 := by omega
    have hq7 : q < 10 ^ 7 := Nat.lt_of_lt_of_le hq (Nat.pow_le_pow_right (by decide) (by omega))
    have hq7' : q < 10000000 := hq7
    have hwi : IntKind.i64.wrap ((i : Int) + 1) = (i : Int) + 1 := IntWalk.i64_in _ (by omega)
    obtain ⟨r, hr⟩ : ∃ r, q % 10 = r := ⟨_, rfl⟩
    obtain ⟨k, hk⟩ : ∃ k, q / 10 = k := ⟨_, rfl⟩
    have hr10 : r < 10 := by omega
    obtain ⟨c, hc⟩ : ∃ c, 48 + r = c := ⟨_, rfl⟩
    have hw1 : IntKind.i64.wrap (48 + (r : Int)) = (c : Int) := by rw [IntWalk.i64_in _ (by omega)]; omega
    have hw2 : IntKind.u8.wrap (c : Int) = (c : Int) := IntWalk.u8_in _ (by omega)
    have hr2 : (q : Int) % 10 = (r : Int) := by omega
    have hr1 : (q : Int).tmod 10 = (r : Int) := by rw [Int.tmod_eq_emod_of_nonneg (by omega)]; exact hr2
    have hk2 : (q : Int) / 10 = (k : Int) := by omega
    have hk1 : (q : Int).tdiv 10 = (k : Int) := by rw [Int.tdiv_eq_ediv_of_nonneg (by omega)]; exact hk2
    have hcv : (convert 53 9 (.slice (some ⟨wr.heap.size, 0, none⟩) 1 1)).run Try.prog (wr.alloc (.cells #[.int .u8 (c : Int)] 5)) = .ok (.string ⟨[digU r].toArray⟩) (wr.alloc (.cells #[.int .u8 (c : Int)] 5)) := by
      have ha := (MapKept.heap_alloc wr (.cells #[.int .u8 (c : Int)] 5)).1
      refine run_convert_bytes_back (wr.alloc (.cells #[.int .u8 (c : Int)] 5)) 53 9 5 ⟨wr.heap.size, 0, none⟩ 1 [digU r] Try.underlying53 Try.underlying5 Try.underlying9 (fun j hj => ?_)
      have hj0 : j = 0 := by simp at hj; omega
      subst hj0
      rw [Addr.add_lit, cell_of_heap ha]
      show some (Value.int .u8 (c : Int)) = some (.int .u8 ((digU r).toNat : Int))
      rw [digU_toNat hr10, hc]
    have hadd : ∀ w' : World, (Op.stringOp .add ⟨[digU r].toArray⟩ ⟨s.toArray⟩).run Try.prog w' = .ok (.string ⟨(digU r :: s).toArray⟩) w' := fun w' => run_string_add_lists w' [digU r] s (by simp) (by omega)
    have HK2 : Hid (Keeps (fun _ => False) W (wr.alloc (.cells #[.int .u8 (c : Int)] 5))) := HK.out.trans ((Keeps.refl _ _).alloc _)
    have HRK := Lib.hid (And.intro hr (And.intro hk (And.intro hc hsl)))
    have HQ := Lib.hid hq
    clear hr hk hc hsl HK hq hq7
    by_cases hk0 : k = 0
    · have HE : Hid (decL N = digU r :: s) := by
        show _ = _
        have h1 := HRK.out
        rw [HD.out, decL_lt (by omega), show q = r by omega]
        rfl
      have hkb : ((k : Int) == 0) = true := by rw [hk0]; rfl
      clear HD HRK HQ
      go_wp2_with fail
      go_ret
      exact ⟨by rw [HE.out]; rfl, HK2⟩
    · have HE : Hid (decL N = decL k ++ (digU r :: s)) := by
        show _ = _
        have h1 := HRK.out
        rw [HD.out, decL_ge (by omega), h1.1, h1.2.1, List.append_assoc]
        rfl
      have hkb : ((k : Int) == 0) = false := beq_eq_false_iff_ne.2 (by omega)
      have hk7 : k < 10 ^ (7 - (i + 1)) := by
        have h1 := HRK.out.2.1
        have h2 := HQ.out
        have e : 10 ^ (7 - i) = 10 ^ (7 - (i + 1)) * 10 := by rw [← Nat.pow_succ]; congr 1; omega
        rw [e] at h2
        omega
      have hi7 : i + 1 < 7 := by
        rcases Nat.lt_or_ge (i + 1) 7 with h | h
        · exact h
        · rw [show 7 - (i + 1) = 0 by omega] at hk7
          simp at hk7; omega
      have hsl := HRK.out.2.2.2
      clear HD HRK HQ
      go_wp2_with fail
      go_roundg (8 - (i + 1))
      case measure => omega
      case rel => exact ⟨i + 1, k, digU r :: s, hi7, hk7, rfl, rfl, rfl, by go_num, by simp; omega, HE, HK2⟩
theorem ref_fresh {W : World} {v : Value} {L : List Str} (h : ReadsS W v L) (hl : L.length ≤ 1000) (n : Int) (hn0 : -9223372036854775808 ≤ n) (hn1 : n ≤ 9223372036854775807) :
    Calls Try.prog 21 #[v, .int .i64 n] W fun e W' => ∃ v', e = .returned v' ∧ Hid (Keeps (fun _ => False) W W' ∧ ReadsS W' v' (freshL L n)) := by
  obtain ⟨m, hm⟩ : ∃ m, (min n 1000).toNat = m := ⟨_, rfl⟩
  have hm1000 : m ≤ 1000 := by omega
  have HHS : Hid (∀ (W' : World) (s : Str), Keeps (fun _ => False) W W' → Calls Try.prog 33 #[v, .string ⟨s.toArray⟩] W' fun e w' => e = .returned (.bool (decide (s ∈ L))) ∧ W' = w') := fun W' s hk => ref_has (h.keeps hk) (by omega) s
  have HDC : Hid (∀ (k : Nat) (W' : World), k ≤ 1000000 → Calls Try.prog 32 #[.int .i64 (k : Int)] W' fun e w' => e = .returned (.string ⟨(decL k).toArray⟩) ∧ Hid (Keeps (fun _ => False) W' w')) := fun k W' hk => ref_dec k hk W'
  obtain ⟨ao, cap, rfl, hle, hr⟩ := h
  obtain ⟨ln, hln⟩ : ∃ ln, L.length = ln := ⟨_, rfl⟩
  rw [hln] at hle hl HHS ⊢
  have HLN := Lib.hid hln
  have HM := Lib.hid hm
  clear hr hln
  go_enter Try.func21, Try.ntmps21
  go_wp2_with fail
  go_loopg [5, 6] (1001 + ln) (fun g ov t wy => ∃ K : Nat, K ≤ 1000 + ln ∧ t = .int .i64 ((K : Int) + 1) ∧ g = 1001 + ln - K ∧ Hid (Keeps (fun _ => False) W wy ∧ OwnS W.heap.size wy ov ((freshUp L K).take m)))
  case atStart => exact ⟨0, Nat.zero_le _, rfl, rfl, Keeps.refl _ _, by rw [show (freshUp L 0).take m = [] from by simp [freshUp]]; exact World.ownsRow_nil _ _ _ _⟩
  case round =>
    obtain ⟨K, hK, rfl, rfl, HI⟩ := hrel
    have hwa : IntKind.i64.wrap (1000 + (ln : Int)) = 1000 + (ln : Int) := IntWalk.i64_in _ (by omega)
    by_cases hlt : K < 1000 + ln
    · have hltI : (K : Int) + 1 ≤ 1000 + (ln : Int) := by omega
      have hwk : IntKind.i64.wrap ((K : Int) + 1 + 1) = (K : Int) + 1 + 1 := IntWalk.i64_in _ (by omega)
      obtain ⟨ol, hol⟩ : ∃ ol, ((freshUp L K).take m).length = ol := ⟨_, rfl⟩
      obtain ⟨oa, oc, hv, _⟩ := own_form HI.out.2
      rw [hol] at hv
      have HI2 : Hid (OwnS W.heap.size wr (.slice oa ol oc) ((freshUp L K).take m)) := by rw [← hv]; exact HI.out.2
      have HKP := Lib.hid HI.out.1
      have HOL := Lib.hid hol
      subst hv
      have HOL2 : Hid (ol = min m (freshUp L K).length) := by show _ = _; rw [← hol, List.length_take]
      have HD1 : Hid (Calls Try.prog 32 #[.int .i64 ((K : Int) + 1)] wr fun e w' => e = .returned (.string ⟨(decL (K + 1)).toArray⟩) ∧ Hid (Keeps (fun _ => False) wr w')) := by
        rw [show ((K : Int) + 1) = ((K + 1 : Nat) : Int) by omega]; exact HDC.out (K + 1) wr (by omega)
      have hdl := decL_len (K + 2) (K + 1) (by omega)
      have hadd : ∀ w' : World, (Op.stringOp .add ⟨#[88]⟩ ⟨(decL (K + 1)).toArray⟩).run Try.prog w' = .ok (.string ⟨(xL (K + 1)).toArray⟩) w' := fun w' => run_string_add_lists w' [88] _ (by simp) (by omega)
      have HFS := Lib.hid (fresh_step L K m)
      have HH1 : Hid (∀ W', Keeps (fun _ => False) W W' → Calls Try.prog 33 #[.slice ao ln cap, .string ⟨(xL (K + 1)).toArray⟩] W' fun e w' => e = .returned (.bool (decide (xL (K + 1) ∈ L))) ∧ W' = w') := fun W' hk => HHS.out W' _ hk
      clear hol hdl HI
      generalize hdg : decL (K + 1) = dl at *
      generalize hxg : xL (K + 1) = xl at *
      clear hdg hxg
      by_cases hfull : ol < m
      · have hon : (ol : Int) < n := by have := HM.out; omega
        have hok : (ol : Int) < 1000 := by omega
        obtain ⟨b, hb⟩ : ∃ b, decide (xl ∈ L) = b := ⟨_, rfl⟩
        rw [hb] at HH1
        have HB := Lib.hid hb
        clear hb
        cases b with
        | true =>
          have HN : Hid ((freshUp L (K + 1)).take m = (freshUp L K).take m) := by show _ = _; rw [HFS.out, if_neg (fun q => q.2 (of_decide_eq_true HB.out))]
          clear HFS HB
          go_wp2_with fail
          refine HD1.out.mono ?_
          rintro e w2 ⟨rfl, hk2⟩
          have HKP2 := Lib.hid (HKP.out.trans hk2.out)
          have HI3 := Lib.hid (HI2.out.keeps hk2.out)
          clear hk2 HD1 HKP HI2
          go_wp2_with fail
          refine (HH1.out _ HKP2.out).mono ?_
          rintro e w' ⟨rfl, rfl⟩
          go_wp2_with fail
          go_roundg (1001 + ln - (K + 1))
          case measure => omega
          case rel => exact ⟨K + 1, by omega, by go_num, rfl, HKP2.out, by rw [HN.out]; exact HI3.out⟩
        | false =>
          have HN : Hid ((freshUp L (K + 1)).take m = (freshUp L K).take m ++ [xl]) := by show _ = _; rw [HFS.out, if_pos ⟨by have := HOL2.out; omega, of_decide_eq_false HB.out⟩]
          clear HFS HB
          go_wp2_with fail
          refine HD1.out.mono ?_
          rintro e w2 ⟨rfl, hk2⟩
          have HKP2 := Lib.hid (HKP.out.trans hk2.out)
          have HI3 := Lib.hid (HI2.out.keeps hk2.out)
          have hsz := HKP2.out.size
          have hol3 := HOL.out
          clear hk2 HD1 HKP HI2
          go_wp2_with fail
          refine (HH1.out _ HKP2.out).mono ?_
          rintro e w' ⟨rfl, rfl⟩
          go_wp2_with (at_builtin; refine app_src rfl _ _ rfl W.heap.size _ ((freshUp L K).take m) rfl (HI3.out.keeps ((Keeps.refl _ _).alloc _)) _ [xl] rfl (one_src w2 xl) (by rw [hol3]; simp; omega) (by simp; omega) ?_)
          intro v3 w3 ho3 hk3
          have HX : Hid (Keeps (fun _ => False) W w3 ∧ OwnS W.heap.size w3 v3 ((freshUp L (K + 1)).take m)) := ⟨(HKP2.out.trans ((Keeps.refl (fun _ => False) w2).alloc _)).trans_new hk3 (fun q hq e => by omega), by rw [HN.out]; exact ho3⟩
          clear ho3 hk3 HKP2 HI3
          go_wp2_with fail
          go_roundg (1001 + ln - (K + 1))
          case measure => omega
          case rel => exact ⟨K + 1, by omega, by go_num, rfl, HX⟩
      · have HN : Hid ((freshUp L (K + 1)).take m = (freshUp L K).take m) := by show _ = _; rw [HFS.out, if_neg (fun q => by have := q.1; have := HOL2.out; omega)]
        clear HFS
        have hno : ¬ ((ol : Int) < n ∧ (ol : Int) < 1000) := by have := HM.out; omega
        by_cases hon : (ol : Int) < n
        · have hok : ¬ (ol : Int) < 1000 := fun h => hno ⟨hon, h⟩
          go_wp2_with fail
          refine HD1.out.mono ?_
          rintro e w2 ⟨rfl, hk2⟩
          have HKP2 := Lib.hid (HKP.out.trans hk2.out)
          have HI3 := Lib.hid (HI2.out.keeps hk2.out)
          clear hk2 HD1 HKP HI2 hno
          go_wp2_with fail
          go_roundg (1001 + ln - (K + 1))
          case measure => omega
          case rel => exact ⟨K + 1, by omega, by go_num, rfl, HKP2.out, by rw [HN.out]; exact HI3.out⟩
        · go_wp2_with fail
          refine HD1.out.mono ?_
          rintro e w2 ⟨rfl, hk2⟩
          have HKP2 := Lib.hid (HKP.out.trans hk2.out)
          have HI3 := Lib.hid (HI2.out.keeps hk2.out)
          clear hk2 HD1 HKP HI2 hno
          go_wp2_with fail
          go_roundg (1001 + ln - (K + 1))
          case measure => omega
          case rel => exact ⟨K + 1, by omega, by go_num, rfl, HKP2.out, by rw [HN.out]; exact HI3.out⟩
    · obtain rfl : K = 1000 + ln := by omega
      have hltI : ¬ ((1000 + ln : Nat) : Int) + 1 ≤ 1000 + (ln : Int) := by omega
      have HX : Hid (Keeps (fun _ => False) W wr ∧ ReadsS wr u5 (freshL L n)) := by
        refine ⟨HI.out.1, ?_⟩
        unfold freshL
        rw [show (min n 1000).toNat = m from HM.out, show L.length = ln from HLN.out]
        exact HI.out.2.reads
      clear HI
      go_wp2_with fail
      go_ret
      exact ⟨_, rfl, HX⟩
end Go.Proofs.Ytonkfkgbmlcceaa
