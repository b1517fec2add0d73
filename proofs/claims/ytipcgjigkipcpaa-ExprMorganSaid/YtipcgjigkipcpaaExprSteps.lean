/-
  A formula as the program has it; what it says at bits, if it may be.
-/
import Derived.Test.YtipcgjigkipcpaaExprAt
set_option linter.unusedVariables false
set_option linter.unusedSimpArgs false
set_option linter.unnecessarySimpa false
namespace Go.Proofs.Ytipcgjigkipcpaa
open Go.ChangeShapes Go.WideShapes Go.ChangeAt Go.RowKit Go.Deep NodePlain
def spC (s : Sp) : List Value := [.int .i64 s.op, .int .i64 s.a, .int .i64 s.b]
def spCells : List Sp → List Value
  | [] => []
  | s :: l => spC s ++ spCells l
theorem spCells_append : ∀ a b : List Sp, spCells (a ++ b) = spCells a ++ spCells b
  | [], b => rfl
  | s :: a, b => by rw [List.cons_append, spCells, spCells, spCells_append a b, List.append_assoc]
theorem spCells_get : ∀ (l : List Sp) (i : Nat) (s : Sp), l[i]? = some s → ∀ t u, (spC s)[t]? = some u → (spCells l)[i * 3 + t]? = some u
  | [], i, s, h, _, _, _ => by cases h
  | x :: l, 0, s, h, t, u, hu => by
    simp only [List.getElem?_cons_zero, Option.some.injEq] at h
    subst h
    have ht : t < (spC x).length := by
      rcases Nat.lt_or_ge t (spC x).length with h | h
      · exact h
      · rw [List.getElem?_eq_none h] at hu; cases hu
    rw [spCells, Nat.zero_mul, Nat.zero_add, List.getElem?_append_left ht]
    exact hu
  | x :: l, i + 1, s, h, t, u, hu => by
    rw [List.getElem?_cons_succ] at h
    have e : (spC x).length = 3 := rfl
    rw [spCells, List.getElem?_append_right (by omega)]
    have := spCells_get l i s h t u hu
    rw [← this]
    congr 1
    omega
theorem spInfo : (Try.prog.info? 107).map (fun i => (i.zero, i.size, i.bytes)) = some (some (.agg #[.int .i64 0, .int .i64 0, .int .i64 0]), 3, 24) := by kernel_rfl
theorem own_sps {w : World} {base : Nat} {e : TypeId} {v : Value} {l : List Sp} (h : w.ownsRow base e 3 v l.length (spCells l)) : ∃ ao cap, v = .slice ao l.length cap ∧ l.length ≤ cap ∧ SpRow w ao l ∧ ∀ b off, ao = some ⟨b, off, none⟩ → base ≤ b := by
  obtain ⟨ao, cap, hv, hle, hm, hno, hold⟩ := own_form h
  refine ⟨ao, cap, hv, hle, fun h0 => ?_, fun b off e => ?_⟩
  · cases ao with
    | none => have := (hno rfl).1; omega
    | some q =>
      obtain ⟨q1, q2, q3, q4, q5⟩ := hold q rfl
      obtain ⟨b, off, sp⟩ := q
      simp only at q1 q2 q3 q4 q5
      subst q1 q2
      refine ⟨b, 0, rfl, q3, fun i s hs => ?_⟩
      rw [Nat.zero_add]
      exact ⟨q5 _ _ (spCells_get l i s hs 0 _ rfl), q5 _ _ (spCells_get l i s hs 1 _ rfl), q5 _ _ (spCells_get l i s hs 2 _ rfl)⟩
  · exact (hold _ e).2.2.2.1
set_option maxRecDepth 100000
set_option maxHeartbeats 3200000
theorem steps_spec (W : World) {ao : Option Addr} {n cap : Nat} {l : List Sp} (hl : l.length = n) (hcap : n ≤ cap) (hn : n ≤ 100000) (hr : SpRow W ao l) :
    Calls Try.prog 29 #[.slice ao n cap] W fun e W' => ∃ so c, e = .returned (.slice so n c) ∧ n ≤ c ∧ Hid (Keeps (fun _ => False) W W' ∧ SpRow W' so l ∧ ∀ b off, so = some ⟨b, off, none⟩ → W.heap.size ≤ b) := by
  obtain ⟨i0, hi0, hz0, hz1, hz2⟩ := info_parts spInfo
  have HR := Lib.hid hr
  have HL := Lib.hid hl
  clear hr hl
  go_enter Try.func29, Try.ntmps29
  go_wp2_with fail
  go_loopg [3, 8] n (fun g so t wy => ∃ (j : Nat) (v : Value), j ≤ n ∧ g = n - j ∧ v = so ∧ t = .int .i64 j ∧ Hid (Keeps (fun _ => False) W wy) ∧ Hid (wy.ownsRow W.heap.size 107 3 v j (spCells (l.take j))))
  case atStart => exact ⟨0, .slice none 0 0, Nat.zero_le _, rfl, rfl, rfl, Keeps.refl _ _, World.ownsRow_nil W _ _ _⟩
  case round =>
    obtain ⟨j, v, hj, rfl, rfl, rfl, HK, HD⟩ := hrel
    by_cases hlt : j < n
    · have hjI : (j : Int) < (n : Int) := by omega
      have hwj : IntKind.i64.wrap ((j : Int) + 1) = (j : Int) + 1 := IntWalk.i64_in _ (by omega)
      obtain ⟨⟨op, a, b⟩, hs⟩ : ∃ s, l[j]? = some s := ⟨_, List.getElem?_eq_getElem (by have := HL.out; omega)⟩
      obtain ⟨bb, off, rfl, hbb, hcc⟩ := HR.out.quiet HK.out (by have := HL.out; omega)
      obtain ⟨c0, c1, c2⟩ := hcc j _ hs
      simp only [] at c0 c1 c2
      have hjc : j < cap := by omega
      have hal := (MapKept.heap_alloc wr (.cells #[.int .i64 op, .int .i64 a, .int .i64 b] 58)).1
      have hk2 : Keeps (fun _ => False) W (wr.alloc (.cells #[.int .i64 op, .int .i64 a, .int .i64 b] 58)) := HK.out.alloc _
      have how : (wr.alloc (.cells #[.int .i64 op, .int .i64 a, .int .i64 b] 58)).ownsRow W.heap.size 107 3 v j (spCells (l.take j)) := HD.out.alloc _
      have d0 := cell_of_heap hal 0
      have d1 := cell_of_heap hal 1
      have d2 := cell_of_heap hal 2
      simp only [List.getElem?_toArray, List.getElem?_cons_zero, List.getElem?_cons_succ] at d0 d1 d2
      have HNX : Hid (spCells (l.take j) ++ [.int .i64 op, .int .i64 a, .int .i64 b] = spCells (l.take (j + 1))) := by
        show _ = _
        rw [List.take_add_one, hs, Option.toList_some, spCells_append]
        rfl
      generalize spCells (l.take j) = cs at *
      have HW := Lib.hid how
      have HK2 := Lib.hid hk2
      clear hcc hal hk2 hs
      go_upto_region 5 with fail
      generalize wr.alloc (.cells #[.int .i64 op, .int .i64 a, .int .i64 b] 58) = w1 at *
      clear c0 c1 c2 HK HD how
      have HFIN : Hid (∀ v2 w2, w2.ownsRow W.heap.size 107 3 v2 (j + 1) (cs ++ [.int .i64 op, .int .i64 a, .int .i64 b]) → (w1.alloc (.cells #[.int .i64 op, .int .i64 a, .int .i64 b] 107)).grownBy w2 v.ownBlock → Keeps (fun _ => False) W w2 ∧ w2.ownsRow W.heap.size 107 3 v2 (j + 1) (spCells (l.take (j + 1)))) := fun v2 w2 ho hg => by
        refine ⟨(HK2.out.alloc _).trans_new (keeps_grown hg) (fun k hk e => ?_), ?_⟩
        · have := own_block HW.out k e; omega
        · rw [← HNX.out]; exact ho
      go_wp2_with (at_builtin; refine wpList_append_own _ rfl _ _ 50 rfl W.heap.size 107 i0 _ 3 24 Try.underlying50 hi0 hz0 hz1 hz2 rfl (by decide) _ _ _ rfl (HW.out.alloc _) ⟨w1.heap.size, 0, none⟩ 1 1 [.int .i64 op, .int .i64 a, .int .i64 b] rfl rfl (cells_new w1 _ _) (by intro u hu; simp only [List.mem_cons, List.not_mem_nil, or_false] at hu; rcases hu with rfl | rfl | rfl <;> rfl) (by unfold maxLen; omega) (by omega) (by have := HK2.out.size; simp; omega) ?_)
      intro v2 w2 hown2 hgrow _
      have HN3 := Lib.hid (HFIN.out v2 w2 hown2 hgrow)
      clear hown2 hgrow HFIN d0 d1 d2
      go_wp2_with fail
      go_roundg (n - (j + 1))
      case measure => omega
      case rel => exact ⟨j + 1, _, by omega, rfl, rfl, by go_num, HN3.out.1, HN3.out.2⟩
    · obtain rfl : j = n := by omega
      have hjI : ¬ (j : Int) < (j : Int) := by omega
      have ho := HD.out
      rw [List.take_of_length_le (by have := HL.out; omega)] at ho
      have hl := HL.out
      have ho2 : wr.ownsRow W.heap.size 107 3 v l.length (spCells l) := by rw [hl]; exact ho
      obtain ⟨so, c, rfl, hc, hrow, hfr⟩ := own_sps ho2
      rw [hl] at hc ⊢
      have HF := Lib.hid (And.intro hrow hfr)
      clear ho ho2 hrow hfr hl HD
      go_wp2_with fail
      go_ret
      exact ⟨so, c, rfl, hc, HK.out, HF.out.1, HF.out.2⟩
theorem eAt_spec (W : World) {X : Nat} (hX : X < 18446744073709551616) (vars : Int) {ao : Option Addr} {n cap : Nat} {l : List Sp} (hl : l.length = n) (hcap : n ≤ cap) (hr : SpRow W ao l) :
    Calls Try.prog 28 #[.int .i64 vars, .int .u64 X, .slice ao n cap] W fun e W' => e = .returned (.tuple #[.bool (rightE vars l && atE X.testBit l), .bool (rightE vars l)]) ∧ Keeps (fun _ => False) W W' := by
  have HC := Lib.hid (eright_spec W vars hl hcap hr)
  have HA : Hid (∀ W', Keeps (fun _ => False) W W' → rightE vars l = true → Calls Try.prog 74 #[.int .u64 X, .slice ao n cap] W' fun e W2 => e = .returned (.bool (atE X.testBit l)) ∧ Keeps (fun _ => False) W' W2) := fun W' hk hok => eat_spec W' hX hl hcap (hr.quiet hk) hok
  clear hr
  generalize atE X.testBit l = r at *
  cases ho : rightE vars l with
  | false =>
    rw [ho] at HC
    clear HA
    go_enter Try.func28, Try.ntmps28
    go_wp2_with fail
    refine HC.out.mono ?_
    rintro e w1 ⟨rfl, hk⟩
    have HK := Lib.hid hk
    clear hk
    go_wp2_with fail
    go_ret2
    exact ⟨rfl, HK.out⟩
  | true =>
    rw [ho] at HC
    have HA2 : Hid (∀ W', Keeps (fun _ => False) W W' → Calls Try.prog 74 #[.int .u64 X, .slice ao n cap] W' fun e W2 => e = .returned (.bool r) ∧ Keeps (fun _ => False) W' W2) := fun W' hk => HA.out W' hk ho
    clear HA
    rw [Bool.true_and]
    go_enter Try.func28, Try.ntmps28
    go_wp2_with fail
    refine HC.out.mono ?_
    rintro e w1 ⟨rfl, hk⟩
    have HK := Lib.hid hk
    clear hk
    go_wp2_with fail
    refine (HA2.out _ HK.out).mono ?_
    rintro e w2 ⟨rfl, hk⟩
    have HK2 := Lib.hid (HK.out.trans hk)
    clear hk
    go_wp2_with fail
    go_ret2
    exact ⟨rfl, HK2.out⟩
end Go.Proofs.Ytipcgjigkipcpaa
