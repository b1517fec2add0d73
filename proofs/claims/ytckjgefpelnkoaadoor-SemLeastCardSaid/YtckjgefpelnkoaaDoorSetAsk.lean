/-
  Len, Inside, Meets of a family of sets.
-/
import Derived.Test.YtckjgefpelnkoaaDoorSetTab
set_option linter.unusedVariables false
set_option linter.unusedSimpArgs false
set_option linter.unnecessarySimpa false
namespace Go.Proofs.YtckjgefpelnkoaaDoor
open Go.ChangeShapes Go.WideShapes Go.ChangeAt Go.RowKit Go.Deep SetPlain

section
variable {w : World} {b bw : Nat} {rb : Nat → Nat} {R C : Nat} {In : Nat → Nat → Bool} {tot : Nat}
set_option maxRecDepth 10000 in
set_option maxHeartbeats 1600000 in
theorem finside_spec (h : FamMem w b bw rb R C In tot) (i o : Int) : Calls Tryd.prog 27 #[.pointer (some ⟨b, 0, none⟩), .int .i64 i, .int .i64 o] w fun e w' => e = .returned (.bool (allIn (rowP R In i) (rowP R In o) C)) ∧ w = w' := by
  have HR := Lib.hid (frow_spec h i)
  have HO := Lib.hid (frow_spec h o)
  have hat := h.at_ i
  have hat2 := h.at_ o
  have hC := h.hC
  have hKC := wordsOf_le C
  have hK16 : wordsOf C ≤ 16 := by unfold wordsOf; omega
  have ho := Lib.hid (h.rowOut i)
  generalize rowV rb R (wordsOf C) i = v at HR hat
  generalize rowP R In i = p at hat ho ⊢
  generalize rowV rb R (wordsOf C) o = v2 at HO hat2
  generalize rowP R In o = q at hat2 ⊢
  generalize wordsOf C = K at hat hat2 hKC hK16
  obtain ⟨res, hres⟩ : ∃ res, allIn p q C = res := ⟨_, rfl⟩
  have hend := Lib.hid (allIn_out (q := q) hKC ho.out)
  rw [hres]
  have Hres := Lib.hid hres
  clear h hres
  rcases hat with ⟨rfl, hp⟩ | ⟨g, rfl, hg, hcell⟩
  · have hz : res = true := by rw [← Hres.out, allIn_iff]; intro j _ hj; rw [hp j] at hj; cases hj
    rw [hz]
    clear hz hp ho Hres hat2 hend
    go_enter Tryd.func27, Tryd.ntmps27
    go_wp2_with fail
    refine HO.out.mono ?_
    rintro e w' ⟨rfl, rfl⟩
    go_wp2_with fail
    refine HR.out.mono ?_
    rintro e w' ⟨rfl, rfl⟩
    go_wp2_with fail
    refine wp_loop_rounds 1 ?_
    rw [rounds_succ]
    go_wp2
    go_ret
    exact ⟨rfl, rfl⟩
  · have HC := Lib.hid hcell
    clear hcell hKC
    rcases hat2 with ⟨rfl, hq⟩ | ⟨g2, rfl, hg2, hcell2⟩
    · have Hq := Lib.hid hq
      clear hq
      go_enter Tryd.func27, Tryd.ntmps27
      go_wp2_with fail
      refine HO.out.mono ?_
      rintro e w' ⟨rfl, rfl⟩
      go_wp2_with fail
      refine HR.out.mono ?_
      rintro e w' ⟨rfl, rfl⟩
      go_wp2_with fail
      clear HR HO
      have hse := words_eql
      go_loopg [17] K (fun gh s wr => ∃ (k : Nat), k ≤ K ∧ gh = K - k ∧ s = .int .i64 k ∧ Hid (allIn p q (64 * k) = true) ∧ w = wr)
      case atStart => exact ⟨0, Nat.zero_le _, rfl, rfl, rfl, rfl⟩
      case round =>
        obtain ⟨k, hk, rfl, rfl, hc, rfl⟩ := hrel
        by_cases hlt : k < K
        · have cw := HC.out k hlt
          have hkI : (k : Int) < (K : Int) := by omega
          have hzw := wordOf_zero p k
          by_cases hX : wordOf p k = 0
          · rw [hX] at cw
            have hn := Lib.hid (allIn_next (q := q) hc.out (fun j hj hp => by rw [hzw.1 hX j hj] at hp; cases hp))
            clear hX hzw
            go_wp2_with fail
            go_roundg (K - (k + 1))
            case measure => omega
            case rel => exact ⟨k + 1, by omega, rfl, by go_num, hn.out, rfl⟩
          · have hn : res = false := by
              rw [← Hres.out]
              exact allIn_not (k := k) ho.out (fun hw => hX (hzw.2 fun j hj => by cases hpj : p (64 * k + j) with | false => rfl | true => have := hw j hj hpj; rw [Hq.out] at this; cases this))
            generalize wordOf p k = X at cw hX
            have hX1 : ((X : Int) == 0) = false := by simpa using hX
            have hX2 : ((X : Int) != 0) = true := by simpa using hX
            clear hX hzw Hres
            subst hn
            go_wp2
            go_ret
            exact ⟨rfl, rfl⟩
        · obtain rfl : k = K := by omega
          have hn : res = true := by rw [← Hres.out, ← hend.out]; exact hc.out
          clear Hres
          subst hn
          go_wp2
          go_ret
          exact ⟨rfl, rfl⟩
    · have HC2 := Lib.hid hcell2
      clear hcell2
      go_enter Tryd.func27, Tryd.ntmps27
      go_wp2_with fail
      refine HO.out.mono ?_
      rintro e w' ⟨rfl, rfl⟩
      go_wp2_with fail
      refine HR.out.mono ?_
      rintro e w' ⟨rfl, rfl⟩
      go_wp2_with fail
      clear HR HO
      have hse := words_eql
      go_loopg [17] K (fun gh s wr => ∃ (k : Nat), k ≤ K ∧ gh = K - k ∧ s = .int .i64 k ∧ Hid (allIn p q (64 * k) = true) ∧ w = wr)
      case atStart => exact ⟨0, Nat.zero_le _, rfl, rfl, rfl, rfl⟩
      case round =>
        obtain ⟨k, hk, rfl, rfl, hc, rfl⟩ := hrel
        by_cases hlt : k < K
        · have cw := HC.out k hlt
          have cw2 := HC2.out k hlt
          have hkI : (k : Int) < (K : Int) := by omega
          have hzw := word_less p q k
          have hr := u64_andNot_nat (wordOf p k) (wordOf q k) (wordOf_lt p k) (wordOf_lt q k)
          by_cases hX : wordOf p k &&& (18446744073709551615 - wordOf q k) = 0
          · rw [hX] at hr
            have hn := Lib.hid (allIn_next hc.out (hzw.1 hX))
            clear hX hzw
            generalize wordOf p k = X at cw hr
            generalize wordOf q k = Y at cw2 hr
            have hr' : bits .andNot .u64 (X : Int) (Y : Int) = 0 := hr
            clear hr
            go_wp2_with fail
            go_roundg (K - (k + 1))
            case measure => omega
            case rel => exact ⟨k + 1, by omega, rfl, by go_num, hn.out, rfl⟩
          · have hn : res = false := by
              rw [← Hres.out]
              exact allIn_not (k := k) ho.out (fun hw => hX (hzw.2 hw))
            generalize wordOf p k &&& (18446744073709551615 - wordOf q k) = Z at hr hX
            generalize wordOf p k = X at cw hr
            generalize wordOf q k = Y at cw2 hr
            have hX1 : ((Z : Int) == 0) = false := by simpa using hX
            have hX2 : ((Z : Int) != 0) = true := by simpa using hX
            clear hX hzw Hres
            subst hn
            go_wp2
            go_ret
            exact ⟨rfl, rfl⟩
        · obtain rfl : k = K := by omega
          have hn : res = true := by rw [← Hres.out, ← hend.out]; exact hc.out
          clear Hres
          subst hn
          go_wp2
          go_ret
          exact ⟨rfl, rfl⟩
end
end Go.Proofs.YtckjgefpelnkoaaDoor
