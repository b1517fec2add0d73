/-
  Which formulas may be: the document's answer.
-/
import Derived.Test.YtipcgjigkipcpaaExprRights
set_option linter.unusedVariables false
set_option linter.unusedSimpArgs false
set_option linter.unnecessarySimpa false
namespace Go.Proofs.Ytipcgjigkipcpaa
open Go.ChangeShapes Go.WideShapes Go.ChangeAt Go.RowKit Go.Deep NodePlain
set_option maxRecDepth 100000
set_option maxHeartbeats 3200000
theorem rright_spec (W : World) (vars : Int) {ao : Option Addr} {n cap : Nat} {l : List Sp} (hl : l.length = n) (hcap : n ≤ cap) (hr : SpRow W ao l) :
    Calls Try.prog 27 #[.int .i64 vars, .slice ao n cap] W fun e W' => e = .returned (.bool (rightE vars l)) ∧ Keeps (fun _ => False) W W' := by
  have HR := Lib.hid hr
  by_cases h0 : vars < 0
  · rw [rightE_short (by unfold lenOk; omega)]
    go_enter Try.func27, Try.ntmps27
    go_wp2_with fail
    go_ret
    exact ⟨rfl, Keeps.refl _ _⟩
  by_cases h1 : 61 < vars
  · rw [rightE_short (by unfold lenOk; omega)]
    go_enter Try.func27, Try.ntmps27
    go_wp2_with fail
    go_ret
    exact ⟨rfl, Keeps.refl _ _⟩
  by_cases h2 : n < 1
  · rw [rightE_short (by unfold lenOk; omega)]
    have h2I : (n : Int) < 1 := by omega
    go_enter Try.func27, Try.ntmps27
    go_wp2_with fail
    go_ret
    exact ⟨rfl, Keeps.refl _ _⟩
  have h2I : ¬ (n : Int) < 1 := by omega
  by_cases h3 : 1000 < n
  · rw [rightE_short (by unfold lenOk; omega)]
    have h3I : 1000 < (n : Int) := by omega
    go_enter Try.func27, Try.ntmps27
    go_wp2_with fail
    go_ret
    exact ⟨rfl, Keeps.refl _ _⟩
  have h3I : ¬ 1000 < (n : Int) := by omega
  rw [rightE_len (by unfold lenOk; omega), hl]
  obtain ⟨r, hr⟩ : ∃ r, okTo vars l n = r := ⟨_, rfl⟩
  rw [hr]
  have HRES := Lib.hid hr
  have HL := Lib.hid hl
  clear hr hl
  go_enter Try.func27, Try.ntmps27
  go_wp2_with fail
  go_loopg [26] n (fun g t wy => ∃ (j : Nat), j ≤ n ∧ g = n - j ∧ t = .int .i64 j ∧ Hid (Keeps (fun _ => False) W wy) ∧ Hid (okTo vars l j = true))
  case atStart => exact ⟨0, Nat.zero_le _, rfl, rfl, Keeps.refl _ _, rfl⟩
  case round =>
    obtain ⟨j, hj, rfl, rfl, HK, HJ⟩ := hrel
    by_cases hlt : j < n
    · have hjI : (j : Int) < (n : Int) := by omega
      have hwj : IntKind.i64.wrap ((j : Int) + 1) = (j : Int) + 1 := IntWalk.i64_in _ (by omega)
      obtain ⟨⟨op, a, b⟩, hs⟩ : ∃ s, l[j]? = some s := ⟨_, List.getElem?_eq_getElem (by have := HL.out; omega)⟩
      obtain ⟨bb, off, rfl, hbb, hcc⟩ := HR.out.quiet HK.out (by have := HL.out; omega)
      obtain ⟨c0, c1, c2⟩ := hcc j _ hs
      simp only [] at c0 c1 c2
      have hjc : j < cap := by omega
      have hal := (MapKept.heap_alloc wr (.cells #[.int .i64 op, .int .i64 a, .int .i64 b] 58)).1
      have HK2 := Lib.hid (HK.out.alloc (.cells #[.int .i64 op, .int .i64 a, .int .i64 b] 58))
      have d0 := cell_of_heap hal 0
      have d1 := cell_of_heap hal 1
      have d2 := cell_of_heap hal 2
      simp only [List.getElem?_toArray, List.getElem?_cons_zero, List.getElem?_cons_succ] at d0 d1 d2
      have HNX : Hid (okTo vars l (j + 1) = decide ((op = 1 ∧ 0 ≤ a ∧ a < vars ∧ b = 0) ∨ (op = 2 ∧ 0 ≤ a ∧ a < j ∧ b = 0) ∨ ((op = 3 ∨ op = 4 ∨ op = 5) ∧ 0 ≤ a ∧ a < j ∧ 0 ≤ b ∧ b < j) ∨ ((op = 6 ∨ op = 7) ∧ a = 0 ∧ b = 0))) := okTo_next HJ.out hs
      clear hcc hs hal HJ
      go_upto_region 6 with fail
      generalize wr.alloc (.cells #[.int .i64 op, .int .i64 a, .int .i64 b] 58) = w1 at *
      clear c0 c1 c2
      by_cases h1 : op = 1
      · subst h1
        by_cases a0 : a < 0
        · have a0' : ¬ 0 ≤ a := by omega
          have hres : r = false := by rw [← HRES.out]; exact okTo_stop (by rw [HNX.out]; exact decide_eq_false (by omega)) n (by omega)
          subst hres
          clear HNX
          go_wp2_with fail
          go_ret
          exact ⟨rfl, HK2.out⟩
        · have a0' : 0 ≤ a := by omega
          by_cases a1 : a < vars
          · by_cases b0 : b = 0
            · subst b0
              have hn : okTo vars l (j + 1) = true := by rw [HNX.out]; exact decide_eq_true (by omega)
              have HN := Lib.hid hn
              clear hn HNX
              go_wp2_with fail
              go_roundg (n - (j + 1))
              case measure => omega
              case rel => exact ⟨j + 1, by omega, rfl, by go_num, HK2, HN⟩
            · have b0b : (b == 0) = false := beq_eq_false_iff_ne.2 (by omega)
              have hres : r = false := by rw [← HRES.out]; exact okTo_stop (by rw [HNX.out]; exact decide_eq_false (by omega)) n (by omega)
              subst hres
              clear HNX
              go_wp2_with fail
              go_ret
              exact ⟨rfl, HK2.out⟩
          · have hres : r = false := by rw [← HRES.out]; exact okTo_stop (by rw [HNX.out]; exact decide_eq_false (by omega)) n (by omega)
            subst hres
            clear HNX
            go_wp2_with fail
            go_ret
            exact ⟨rfl, HK2.out⟩
      · have h1b : (op == 1) = false := beq_eq_false_iff_ne.2 (by omega)
        by_cases h2 : op = 2
        · subst h2
          by_cases a0 : a < 0
          · have a0' : ¬ 0 ≤ a := by omega
            have hres : r = false := by rw [← HRES.out]; exact okTo_stop (by rw [HNX.out]; exact decide_eq_false (by omega)) n (by omega)
            subst hres
            clear HNX
            go_wp2_with fail
            go_ret
            exact ⟨rfl, HK2.out⟩
          · have a0' : 0 ≤ a := by omega
            by_cases a1 : a < j
            · by_cases b0 : b = 0
              · subst b0
                have hn : okTo vars l (j + 1) = true := by rw [HNX.out]; exact decide_eq_true (by omega)
                have HN := Lib.hid hn
                clear hn HNX
                go_wp2_with fail
                go_roundg (n - (j + 1))
                case measure => omega
                case rel => exact ⟨j + 1, by omega, rfl, by go_num, HK2, HN⟩
              · have b0b : (b == 0) = false := beq_eq_false_iff_ne.2 (by omega)
                have hres : r = false := by rw [← HRES.out]; exact okTo_stop (by rw [HNX.out]; exact decide_eq_false (by omega)) n (by omega)
                subst hres
                clear HNX
                go_wp2_with fail
                go_ret
                exact ⟨rfl, HK2.out⟩
            · have hres : r = false := by rw [← HRES.out]; exact okTo_stop (by rw [HNX.out]; exact decide_eq_false (by omega)) n (by omega)
              subst hres
              clear HNX
              go_wp2_with fail
              go_ret
              exact ⟨rfl, HK2.out⟩
        · have h2b : (op == 2) = false := beq_eq_false_iff_ne.2 (by omega)
          by_cases h35 : 3 ≤ op ∧ op ≤ 5
          · obtain ⟨h3, h5⟩ := h35
            have h6b : (op == 6) = false := beq_eq_false_iff_ne.2 (by omega)
            have h7b : (op == 7) = false := beq_eq_false_iff_ne.2 (by omega)
            by_cases a0 : a < 0
            · have a0' : ¬ 0 ≤ a := by omega
              have hres : r = false := by rw [← HRES.out]; exact okTo_stop (by rw [HNX.out]; exact decide_eq_false (by omega)) n (by omega)
              subst hres
              clear HNX
              go_wp2_with fail
              go_ret
              exact ⟨rfl, HK2.out⟩
            · have a0' : 0 ≤ a := by omega
              by_cases a1 : a < j
              · by_cases b0 : b < 0
                · have b0' : ¬ 0 ≤ b := by omega
                  have hres : r = false := by rw [← HRES.out]; exact okTo_stop (by rw [HNX.out]; exact decide_eq_false (by omega)) n (by omega)
                  subst hres
                  clear HNX
                  go_wp2_with fail
                  go_ret
                  exact ⟨rfl, HK2.out⟩
                · have b0' : 0 ≤ b := by omega
                  by_cases b1 : b < j
                  · have hn : okTo vars l (j + 1) = true := by rw [HNX.out]; exact decide_eq_true (by omega)
                    have HN := Lib.hid hn
                    clear hn HNX
                    go_wp2_with fail
                    go_roundg (n - (j + 1))
                    case measure => omega
                    case rel => exact ⟨j + 1, by omega, rfl, by go_num, HK2, HN⟩
                  · have hres : r = false := by rw [← HRES.out]; exact okTo_stop (by rw [HNX.out]; exact decide_eq_false (by omega)) n (by omega)
                    subst hres
                    clear HNX
                    go_wp2_with fail
                    go_ret
                    exact ⟨rfl, HK2.out⟩
              · have hres : r = false := by rw [← HRES.out]; exact okTo_stop (by rw [HNX.out]; exact decide_eq_false (by omega)) n (by omega)
                subst hres
                clear HNX
                go_wp2_with fail
                go_ret
                exact ⟨rfl, HK2.out⟩
          · by_cases h6 : op = 6
            · subst h6
              by_cases a0 : a = 0
              · subst a0
                by_cases b0 : b = 0
                · subst b0
                  have hn : okTo vars l (j + 1) = true := by rw [HNX.out]; exact decide_eq_true (by omega)
                  have HN := Lib.hid hn
                  clear hn HNX
                  go_wp2_with fail
                  go_roundg (n - (j + 1))
                  case measure => omega
                  case rel => exact ⟨j + 1, by omega, rfl, by go_num, HK2, HN⟩
                · have b0b : (b == 0) = false := beq_eq_false_iff_ne.2 (by omega)
                  have hres : r = false := by rw [← HRES.out]; exact okTo_stop (by rw [HNX.out]; exact decide_eq_false (by omega)) n (by omega)
                  subst hres
                  clear HNX
                  go_wp2_with fail
                  go_ret
                  exact ⟨rfl, HK2.out⟩
              · have a0b : (a == 0) = false := beq_eq_false_iff_ne.2 (by omega)
                have hres : r = false := by rw [← HRES.out]; exact okTo_stop (by rw [HNX.out]; exact decide_eq_false (by omega)) n (by omega)
                subst hres
                clear HNX
                go_wp2_with fail
                go_ret
                exact ⟨rfl, HK2.out⟩
            · have h6b : (op == 6) = false := beq_eq_false_iff_ne.2 (by omega)
              by_cases h7 : op = 7
              · subst h7
                by_cases a0 : a = 0
                · subst a0
                  by_cases b0 : b = 0
                  · subst b0
                    have hn : okTo vars l (j + 1) = true := by rw [HNX.out]; exact decide_eq_true (by omega)
                    have HN := Lib.hid hn
                    clear hn HNX
                    go_wp2_with fail
                    go_roundg (n - (j + 1))
                    case measure => omega
                    case rel => exact ⟨j + 1, by omega, rfl, by go_num, HK2, HN⟩
                  · have b0b : (b == 0) = false := beq_eq_false_iff_ne.2 (by omega)
                    have hres : r = false := by rw [← HRES.out]; exact okTo_stop (by rw [HNX.out]; exact decide_eq_false (by omega)) n (by omega)
                    subst hres
                    clear HNX
                    go_wp2_with fail
                    go_ret
                    exact ⟨rfl, HK2.out⟩
                · have a0b : (a == 0) = false := beq_eq_false_iff_ne.2 (by omega)
                  have hres : r = false := by rw [← HRES.out]; exact okTo_stop (by rw [HNX.out]; exact decide_eq_false (by omega)) n (by omega)
                  subst hres
                  clear HNX
                  go_wp2_with fail
                  go_ret
                  exact ⟨rfl, HK2.out⟩
              · by_cases h3 : op < 3
                · have h3' : ¬ 3 ≤ op := by omega
                  have h6b : (op == 6) = false := beq_eq_false_iff_ne.2 (by omega)
                  have h7b : (op == 7) = false := beq_eq_false_iff_ne.2 (by omega)
                  have hres : r = false := by rw [← HRES.out]; exact okTo_stop (by rw [HNX.out]; exact decide_eq_false (by omega)) n (by omega)
                  subst hres
                  clear HNX
                  go_wp2_with fail
                  go_ret
                  exact ⟨rfl, HK2.out⟩
                · have h3' : 3 ≤ op := by omega
                  have h5' : ¬ op ≤ 5 := by omega
                  have h6b : (op == 6) = false := beq_eq_false_iff_ne.2 (by omega)
                  have h7b : (op == 7) = false := beq_eq_false_iff_ne.2 (by omega)
                  have hres : r = false := by rw [← HRES.out]; exact okTo_stop (by rw [HNX.out]; exact decide_eq_false (by omega)) n (by omega)
                  subst hres
                  clear HNX
                  go_wp2_with fail
                  go_ret
                  exact ⟨rfl, HK2.out⟩
    · obtain rfl : j = n := by omega
      have hjI : ¬ (j : Int) < (j : Int) := by omega
      have hres : r = true := by rw [← HRES.out]; exact HJ.out
      subst hres
      go_wp2_with fail
      go_ret
      exact ⟨rfl, HK.out⟩
end Go.Proofs.Ytipcgjigkipcpaa
