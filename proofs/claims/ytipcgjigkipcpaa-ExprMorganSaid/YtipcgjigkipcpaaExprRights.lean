/-
  Which formulas may be: the program's answer and the document's.
-/
import Derived.Test.YtipcgjigkipcpaaExprRight
set_option linter.unusedVariables false
set_option linter.unusedSimpArgs false
set_option linter.unnecessarySimpa false
namespace Go.Proofs.Ytipcgjigkipcpaa
open Go.ChangeShapes Go.WideShapes Go.ChangeAt Go.RowKit Go.Deep NodePlain
theorem rightE_short {vars : Int} {l : List Sp} (h : ¬ lenOk vars l.length) : rightE vars l = false := by
  unfold rightE
  rw [decide_eq_false h]; rfl
theorem rightE_len {vars : Int} {l : List Sp} (h : lenOk vars l.length) : rightE vars l = okTo vars l l.length := by
  unfold rightE
  rw [decide_eq_true h]; rfl
theorem okTo_next {vars : Int} {l : List Sp} {i : Nat} {s : Sp} (h : okTo vars l i = true) (hs : l[i]? = some s) : okTo vars l (i + 1) = okS vars i s := by
  rw [okTo, h, getD_of hs]; rfl
set_option maxRecDepth 100000
set_option maxHeartbeats 1600000
theorem eright_spec (W : World) (vars : Int) {ao : Option Addr} {n cap : Nat} {l : List Sp} (hl : l.length = n) (hcap : n ≤ cap) (hr : SpRow W ao l) :
    Calls Try.prog 30 #[.int .i64 vars, .slice ao n cap] W fun e W' => e = .returned (.bool (rightE vars l)) ∧ Keeps (fun _ => False) W W' := by
  have HR := Lib.hid hr
  by_cases h0 : vars < 0
  · rw [rightE_short (by unfold lenOk; omega)]
    go_enter Try.func30, Try.ntmps30
    go_wp2_with fail
    go_ret
    exact ⟨rfl, Keeps.refl _ _⟩
  by_cases h1 : 61 < vars
  · rw [rightE_short (by unfold lenOk; omega)]
    go_enter Try.func30, Try.ntmps30
    go_wp2_with fail
    go_ret
    exact ⟨rfl, Keeps.refl _ _⟩
  by_cases h2 : n = 0
  · rw [rightE_short (by unfold lenOk; omega)]
    subst h2
    have e0 : ((0 : Nat) : Int) = 0 := rfl
    go_enter Try.func30, Try.ntmps30
    go_wp2_with fail
    go_ret
    exact ⟨rfl, Keeps.refl _ _⟩
  have h2b : ((n : Int) == 0) = false := beq_eq_false_iff_ne.2 (by omega)
  have h2I : ¬ (n : Int) = 0 := by omega
  by_cases h3 : 1000 < n
  · rw [rightE_short (by unfold lenOk; omega)]
    have h3I : 1000 < (n : Int) := by omega
    go_enter Try.func30, Try.ntmps30
    go_wp2_with fail
    go_ret
    exact ⟨rfl, Keeps.refl _ _⟩
  have h3I : ¬ 1000 < (n : Int) := by omega
  rw [rightE_len (by unfold lenOk; omega), hl]
  obtain ⟨r, hr⟩ : ∃ r, okTo vars l n = r := ⟨_, rfl⟩
  rw [hr]
  have HRES := Lib.hid hr
  have HL := Lib.hid hl
  clear hr hl
  go_enter Try.func30, Try.ntmps30
  go_wp2_with fail
  go_loopg [25] n (fun g t wy => ∃ (j : Nat), j ≤ n ∧ g = n - j ∧ t = .int .i64 j ∧ Hid (Keeps (fun _ => False) W wy) ∧ Hid (okTo vars l j = true))
  case atStart => exact ⟨0, Nat.zero_le _, rfl, rfl, Keeps.refl _ _, rfl⟩
  case round =>
    obtain ⟨j, hj, rfl, rfl, HK, HJ⟩ := hrel
    by_cases hlt : j < n
    · have hjI : (j : Int) < (n : Int) := by omega
      have hwj : IntKind.i64.wrap ((j : Int) + 1) = (j : Int) + 1 := IntWalk.i64_in _ (by omega)
      obtain ⟨⟨op, a, b⟩, hs⟩ : ∃ s, l[j]? = some s := ⟨_, List.getElem?_eq_getElem (by have := HL.out; omega)⟩
      obtain ⟨bb, off, rfl, hbb, hcc⟩ := HR.out.quiet HK.out (by have := HL.out; omega)
      obtain ⟨c0, c1, c2⟩ := hcc j _ hs
      simp only [] at c0 c1 c2
      have hjc : j < cap := by omega
      have hal := (MapKept.heap_alloc wr (.cells #[.int .i64 op, .int .i64 a, .int .i64 b] 107)).1
      have HK2 := Lib.hid (HK.out.alloc (.cells #[.int .i64 op, .int .i64 a, .int .i64 b] 107))
      have d0 := cell_of_heap hal 0
      have d1 := cell_of_heap hal 1
      have d2 := cell_of_heap hal 2
      simp only [List.getElem?_toArray, List.getElem?_cons_zero, List.getElem?_cons_succ] at d0 d1 d2
      have HNX := Lib.hid (okTo_next HJ.out hs)
      have HC : Hid (∀ W, Calls Try.prog 75 #[.agg #[.int .i64 op, .int .i64 a, .int .i64 b], .int .i64 vars, .int .i64 j] W fun e W' => e = .returned (.bool (okS vars j ⟨op, a, b⟩)) ∧ Keeps (fun _ => False) W W') := fun W => sright_spec W ⟨op, a, b⟩ vars j (by omega)
      obtain ⟨q, hq⟩ : ∃ q, okS vars j ⟨op, a, b⟩ = q := ⟨_, rfl⟩
      rw [hq] at HNX HC
      clear hcc hs hal hq HJ
      go_upto_region 6 with fail
      generalize wr.alloc (.cells #[.int .i64 op, .int .i64 a, .int .i64 b] 107) = w1 at *
      clear c0 c1 c2
      go_wp2_with fail
      refine (HC.out w1).mono ?_
      rintro e w2 ⟨rfl, hk2⟩
      have HK3 := Lib.hid (HK2.out.trans hk2)
      clear HC d0 d1 d2 hk2
      cases q with
      | true =>
        go_wp2_with fail
        go_roundg (n - (j + 1))
        case measure => omega
        case rel => exact ⟨j + 1, by omega, rfl, by go_num, HK3, HNX⟩
      | false =>
        have hres : r = false := by rw [← HRES.out]; exact okTo_stop HNX.out n (by omega)
        subst hres
        go_wp2_with fail
        go_ret
        exact ⟨rfl, HK3.out⟩
    · obtain rfl : j = n := by omega
      have hjI : ¬ (j : Int) < (j : Int) := by omega
      have hres : r = true := by rw [← HRES.out]; exact HJ.out
      subst hres
      go_wp2_with fail
      go_ret
      exact ⟨rfl, HK.out⟩
end Go.Proofs.Ytipcgjigkipcpaa
