/-
  How deep a formula is: the document's answer.
-/
import Derived.Test.YtipcgjigkipcpaaExprDepth
set_option linter.unusedVariables false
set_option linter.unusedSimpArgs false
set_option linter.unnecessarySimpa false
namespace Go.Proofs.Ytipcgjigkipcpaa
open Go.ChangeShapes Go.WideShapes Go.ChangeAt Go.RowKit Go.Deep NodePlain
def natCells (R : Nat → Nat) (n : Nat) : List Value := (List.range n).map fun i => .int .i64 (R i : Nat)
theorem natCells_len (R : Nat → Nat) (n : Nat) : (natCells R n).length = n := by simp [natCells]
theorem natCells_get (R : Nat → Nat) {n i : Nat} (h : i < n) : (natCells R n)[i]? = some (.int .i64 (R i : Nat)) := by simp [natCells, h]
theorem natCells_next {R Q : Nat → Nat} {n x : Nat} (h : ∀ i, i < n → R i = Q i) (hx : x = Q n) : natCells R n ++ [.int .i64 (x : Nat)] = natCells Q (n + 1) := by
  unfold natCells
  rw [List.range_succ, List.map_append, hx]
  congr 1
  exact List.map_congr_left fun i hi => by rw [h i (List.mem_range.1 hi)]
theorem depTo_next {l : List Sp} {j : Nat} {s : Sp} (hs : l[j]? = some s) {x : Nat} (hx : x = dep1 (depTo l j) s) : natCells (depTo l j) j ++ [.int .i64 (x : Nat)] = natCells (depTo l (j + 1)) (j + 1) := by
  refine natCells_next (fun i hi => ?_) ?_
  · show depTo l j i = if i = j then _ else depTo l j i
    rw [if_neg (by omega)]
  · show x = if j = j then _ else _
    rw [if_pos rfl, getD_of hs, hx]
set_option maxRecDepth 100000
set_option maxHeartbeats 3200000
theorem rdepth_spec (W : World) {vars : Int} {ao : Option Addr} {n cap : Nat} {l : List Sp} (hl : l.length = n) (hcap : n ≤ cap) (hr : SpRow W ao l) (hok : rightE vars l = true) :
    Calls Try.prog 33 #[.slice ao n cap] W fun e W' => e = .returned (.int .i64 (depE l)) ∧ Keeps (fun _ => False) W W' := by
  obtain ⟨i0, hi0, hz0, hz1, hz2⟩ := info_parts iinfo
  have HR := Lib.hid hr
  have HL := Lib.hid hl
  obtain ⟨hv0, hv61, hn1, hn2⟩ := right_len hok
  rw [hl] at hn1 hn2
  have HOK : Hid (∀ j s, l[j]? = some s → OkS vars j s) := fun j s h => by
    have hj : j < l.length := by
      rcases Nat.lt_or_ge j l.length with h' | h'
      · exact h'
      · rw [List.getElem?_eq_none h'] at h; cases h
    have := right_at hok hj
    rw [getD_of h] at this
    exact this
  have HDL : Hid (∀ i j, depTo l i j ≤ i) := dep_le l
  obtain ⟨r, hr⟩ : ∃ r, depE l = r := ⟨_, rfl⟩
  rw [hr]
  have HRES : Hid (depTo l n (n - 1) = r) := by
    unfold depE at hr
    rw [hl] at hr
    exact hr
  clear hr hl hok
  go_enter Try.func33, Try.ntmps33
  go_wp2_with fail
  go_loopg [3, 9] n (fun g so t wy => ∃ (j : Nat) (v : Value), j ≤ n ∧ g = n - j ∧ v = so ∧ t = .int .i64 j ∧ Hid (Keeps (fun _ => False) W wy) ∧ Hid (wy.ownsRow W.heap.size 3 1 v j (natCells (depTo l j) j)))
  case atStart => exact ⟨0, .slice none 0 0, Nat.zero_le _, rfl, rfl, rfl, Keeps.refl _ _, World.ownsRow_nil W _ _ _⟩
  case round =>
    obtain ⟨j, v, hj, rfl, rfl, rfl, HK, HD⟩ := hrel
    by_cases hlt : j < n
    · have hjI : (j : Int) < (n : Int) := by omega
      have hwj : IntKind.i64.wrap ((j : Int) + 1) = (j : Int) + 1 := IntWalk.i64_in _ (by omega)
      obtain ⟨⟨op, a, b⟩, hs⟩ : ∃ s, l[j]? = some s := ⟨_, List.getElem?_eq_getElem (by have := HL.out; omega)⟩
      obtain ⟨bb, off, rfl, hbb, hcc⟩ := HR.out.quiet HK.out (by have := HL.out; omega)
      obtain ⟨c0, c1, c2⟩ := hcc j _ hs
      simp only [] at c0 c1 c2
      have hjc : j < cap := by omega
      have hal := (MapKept.heap_alloc wr (.cells #[.int .i64 op, .int .i64 a, .int .i64 b] 58)).1
      have hk2 : Keeps (fun _ => False) W (wr.alloc (.cells #[.int .i64 op, .int .i64 a, .int .i64 b] 58)) := HK.out.alloc _
      have how : (wr.alloc (.cells #[.int .i64 op, .int .i64 a, .int .i64 b] 58)).ownsRow W.heap.size 3 1 v j (natCells (depTo l j) j) := HD.out.alloc _
      have d0 := cell_of_heap hal 0
      have d1 := cell_of_heap hal 1
      have d2 := cell_of_heap hal 2
      simp only [List.getElem?_toArray, List.getElem?_cons_zero, List.getElem?_cons_succ] at d0 d1 d2
      have HO : Hid (OkS vars j ⟨op, a, b⟩) := HOK.out j _ hs
      have HNX : Hid (∀ x, x = dep1 (depTo l j) ⟨op, a, b⟩ → natCells (depTo l j) j ++ [.int .i64 (x : Nat)] = natCells (depTo l (j + 1)) (j + 1)) := fun x hx => depTo_next hs hx
      have HCL0 : Hid (∀ x, x < j → (natCells (depTo l j) j)[x]? = some (.int .i64 (depTo l j x : Nat))) := fun x hx => natCells_get _ hx
      have HQB : Hid (∀ x, depTo l j x ≤ j) := fun x => HDL.out j x
      obtain ⟨R, hR⟩ : ∃ R, depTo l j = R := ⟨_, rfl⟩
      rw [hR] at HNX HCL0 how HQB
      generalize natCells R j = cs at *
      have HW := Lib.hid how
      have HK2 := Lib.hid hk2
      clear hcc hal hk2 hs hR
      go_upto_region 6 with fail
      generalize wr.alloc (.cells #[.int .i64 op, .int .i64 a, .int .i64 b] 58) = w1 at *
      clear c0 c1 c2 HK HD how
      have HFIN : Hid (∀ (x : Nat) v2 w2, x = dep1 R ⟨op, a, b⟩ → w2.ownsRow W.heap.size 3 1 v2 (j + 1) (cs ++ [.int .i64 (x : Nat)]) → (w1.alloc (.cells #[.int .i64 (x : Nat)] 3)).grownBy w2 v.ownBlock → Keeps (fun _ => False) W w2 ∧ w2.ownsRow W.heap.size 3 1 v2 (j + 1) (natCells (depTo l (j + 1)) (j + 1))) := fun x v2 w2 hx ho hg => by
        refine ⟨(HK2.out.alloc _).trans_new (keeps_grown hg) (fun k hk e => ?_), ?_⟩
        · have := own_block HW.out k e; omega
        · rw [← HNX.out x hx]; exact ho
      rcases HO.out.of with ⟨h1, av, ha, hav, hb⟩ | ⟨h2, av, ha, hav, hb⟩ | ⟨av, bv, ha, hav, hb, hbv, h345⟩ | ⟨ha, hb, h67⟩
      · (try simp only [] at h1 ha hb)
        subst h1 ha hb
        have HX : Hid (1 = dep1 R ⟨1, (av : Int), 0⟩) := rfl
        clear HCL0 HO HNX
        go_wp2_with (at_builtin; refine wpList_append_own _ rfl _ _ 28 rfl W.heap.size 3 i0 _ 1 8 Try.underlying28 hi0 hz0 hz1 hz2 rfl (by decide) _ _ _ rfl (HW.out.alloc _) ⟨w1.heap.size, 0, none⟩ 1 1 [.int .i64 1] rfl rfl (cells_new w1 _ _) (by intro u hu; simp only [List.mem_cons, List.not_mem_nil, or_false] at hu; subst hu; rfl) (by unfold maxLen; omega) (by omega) (by have := HK2.out.size; simp; omega) ?_)
        intro v2 w2 hown2 hgrow _
        have HN3 := Lib.hid (HFIN.out 1 v2 w2 HX.out hown2 hgrow)
        clear hown2 hgrow HFIN
        go_wp2_with fail
        go_roundg (n - (j + 1))
        case measure => omega
        case rel => exact ⟨j + 1, _, by omega, rfl, rfl, by go_num, HN3.out.1, HN3.out.2⟩
      · (try simp only [] at h2 ha hb)
        subst h2 ha hb
        obtain ⟨ro, rc, rfl, hle, hmx, hno, hold⟩ := own_form HW.out
        obtain ⟨g, rfl⟩ : ∃ g, ro = some ⟨g, 0, none⟩ := by
          cases ro with
          | none => have := (hno rfl).1; omega
          | some q => exact ⟨q.block, by obtain ⟨q1, q2, _⟩ := hold q rfl; obtain ⟨q3, q4, q5⟩ := q; simp only at q1 q2; subst q1 q2; rfl⟩
        have hold2 := (hold _ rfl).2.2.2.2
        have cA := hold2 av _ (HCL0.out av hav)
        have havI : (av : Int) < (j : Int) := by omega
        have ha0 : (0 : Int) ≤ (av : Int) := by omega
        have hac : av < rc := by omega
        have hqb := HQB.out av
        obtain ⟨va, hv⟩ : ∃ v, R av = v := ⟨_, rfl⟩
        rw [hv] at cA hqb
        have HX : Hid (va + 1 = dep1 R ⟨2, (av : Int), 0⟩) := by show va + 1 = _; rw [← hv]; rfl
        have hwv : IntKind.i64.wrap ((va : Int) + 1) = ((va + 1 : Nat) : Int) := (IntWalk.i64_in _ (by omega)).trans (by omega)
        generalize va + 1 = va1 at *
        clear hv HCL0 HO HNX hold hold2 hno
        go_wp2_with (at_builtin; refine wpList_append_own _ rfl _ _ 28 rfl W.heap.size 3 i0 _ 1 8 Try.underlying28 hi0 hz0 hz1 hz2 rfl (by decide) _ _ _ rfl (HW.out.alloc _) ⟨w1.heap.size, 0, none⟩ 1 1 [.int .i64 (va1 : Int)] rfl rfl (cells_new w1 _ _) (by intro u hu; simp only [List.mem_cons, List.not_mem_nil, or_false] at hu; subst hu; rfl) (by unfold maxLen; omega) (by omega) (by have := HK2.out.size; simp; omega) ?_)
        intro v2 w2 hown2 hgrow _
        have HN3 := Lib.hid (HFIN.out va1 v2 w2 HX.out hown2 hgrow)
        clear hown2 hgrow HFIN
        go_wp2_with fail
        go_roundg (n - (j + 1))
        case measure => omega
        case rel => exact ⟨j + 1, _, by omega, rfl, rfl, by go_num, HN3.out.1, HN3.out.2⟩
      · (try simp only [] at ha hb h345)
        subst ha hb
        obtain ⟨ro, rc, rfl, hle, hmx, hno, hold⟩ := own_form HW.out
        obtain ⟨g, rfl⟩ : ∃ g, ro = some ⟨g, 0, none⟩ := by
          cases ro with
          | none => have := (hno rfl).1; omega
          | some q => exact ⟨q.block, by obtain ⟨q1, q2, _⟩ := hold q rfl; obtain ⟨q3, q4, q5⟩ := q; simp only at q1 q2; subst q1 q2; rfl⟩
        have hold2 := (hold _ rfl).2.2.2.2
        have cA := hold2 av _ (HCL0.out av hav)
        have cB := hold2 bv _ (HCL0.out bv hbv)
        have havI : (av : Int) < (j : Int) := by omega
        have hbvI : (bv : Int) < (j : Int) := by omega
        have ha0 : (0 : Int) ≤ (av : Int) := by omega
        have hb0 : (0 : Int) ≤ (bv : Int) := by omega
        have hac : av < rc := by omega
        have hbc : bv < rc := by omega
        have hqa := HQB.out av
        have hqb := HQB.out bv
        obtain ⟨va, hva⟩ : ∃ v, R av = v := ⟨_, rfl⟩
        obtain ⟨vb, hvb⟩ : ∃ v, R bv = v := ⟨_, rfl⟩
        rw [hva] at cA hqa
        rw [hvb] at cB hqb
        have o2 : 2 ≤ op := by omega
        have o3 : 3 ≤ op := by omega
        have o5 : op ≤ 5 := by omega
        have HX : Hid (max va vb + 1 = dep1 R ⟨op, (av : Int), (bv : Int)⟩) := by
          show max va vb + 1 = dep1 R ⟨op, (av : Int), (bv : Int)⟩
          unfold dep1
          rw [if_neg (show ¬ op = 2 by omega), if_pos (show 3 ≤ op ∧ op ≤ 5 from ⟨o3, o5⟩), ← hva, ← hvb]; rfl
        have hwa : IntKind.i64.wrap ((va : Int) + 1) = ((va + 1 : Nat) : Int) := (IntWalk.i64_in _ (by omega)).trans (by omega)
        have hwb : IntKind.i64.wrap ((vb : Int) + 1) = ((vb + 1 : Nat) : Int) := (IntWalk.i64_in _ (by omega)).trans (by omega)
        clear hva hvb HCL0 HO HNX hold hold2 hno h345
        by_cases hc : va < vb
        · have HX2 : Hid (vb + 1 = dep1 R ⟨op, (av : Int), (bv : Int)⟩) := by show vb + 1 = _; rw [← HX.out]; omega
          have hcI : ((va + 1 : Nat) : Int) < ((vb + 1 : Nat) : Int) := by omega
          generalize va + 1 = va1 at *
          generalize vb + 1 = vb1 at *
          clear HX hc
          go_wp2_with (at_builtin; refine wpList_append_own _ rfl _ _ 28 rfl W.heap.size 3 i0 _ 1 8 Try.underlying28 hi0 hz0 hz1 hz2 rfl (by decide) _ _ _ rfl (HW.out.alloc _) ⟨w1.heap.size, 0, none⟩ 1 1 [.int .i64 (vb1 : Int)] rfl rfl (cells_new w1 _ _) (by intro u hu; simp only [List.mem_cons, List.not_mem_nil, or_false] at hu; subst hu; rfl) (by unfold maxLen; omega) (by omega) (by have := HK2.out.size; simp; omega) ?_)
          intro v2 w2 hown2 hgrow _
          have HN3 := Lib.hid (HFIN.out vb1 v2 w2 HX2.out hown2 hgrow)
          clear hown2 hgrow HFIN
          go_wp2_with fail
          go_roundg (n - (j + 1))
          case measure => omega
          case rel => exact ⟨j + 1, _, by omega, rfl, rfl, by go_num, HN3.out.1, HN3.out.2⟩
        · have HX2 : Hid (va + 1 = dep1 R ⟨op, (av : Int), (bv : Int)⟩) := by show va + 1 = _; rw [← HX.out]; omega
          have hcI : ¬ ((va + 1 : Nat) : Int) < ((vb + 1 : Nat) : Int) := by omega
          generalize va + 1 = va1 at *
          generalize vb + 1 = vb1 at *
          clear HX hc
          go_wp2_with (at_builtin; refine wpList_append_own _ rfl _ _ 28 rfl W.heap.size 3 i0 _ 1 8 Try.underlying28 hi0 hz0 hz1 hz2 rfl (by decide) _ _ _ rfl (HW.out.alloc _) ⟨w1.heap.size, 0, none⟩ 1 1 [.int .i64 (va1 : Int)] rfl rfl (cells_new w1 _ _) (by intro u hu; simp only [List.mem_cons, List.not_mem_nil, or_false] at hu; subst hu; rfl) (by unfold maxLen; omega) (by omega) (by have := HK2.out.size; simp; omega) ?_)
          intro v2 w2 hown2 hgrow _
          have HN3 := Lib.hid (HFIN.out va1 v2 w2 HX2.out hown2 hgrow)
          clear hown2 hgrow HFIN
          go_wp2_with fail
          go_roundg (n - (j + 1))
          case measure => omega
          case rel => exact ⟨j + 1, _, by omega, rfl, rfl, by go_num, HN3.out.1, HN3.out.2⟩
      · (try simp only [] at ha hb h67)
        subst ha hb
        have o2 : 2 ≤ op := by omega
        have o3 : 3 ≤ op := by omega
        have o5 : ¬ op ≤ 5 := by omega
        have HX : Hid (1 = dep1 R ⟨op, 0, 0⟩) := by
          show 1 = dep1 R ⟨op, 0, 0⟩
          unfold dep1
          rw [if_neg (show ¬ op = 2 by omega), if_neg (show ¬ (3 ≤ op ∧ op ≤ 5) by omega)]
        clear HCL0 HO HNX h67
        go_wp2_with (at_builtin; refine wpList_append_own _ rfl _ _ 28 rfl W.heap.size 3 i0 _ 1 8 Try.underlying28 hi0 hz0 hz1 hz2 rfl (by decide) _ _ _ rfl (HW.out.alloc _) ⟨w1.heap.size, 0, none⟩ 1 1 [.int .i64 1] rfl rfl (cells_new w1 _ _) (by intro u hu; simp only [List.mem_cons, List.not_mem_nil, or_false] at hu; subst hu; rfl) (by unfold maxLen; omega) (by omega) (by have := HK2.out.size; simp; omega) ?_)
        intro v2 w2 hown2 hgrow _
        have HN3 := Lib.hid (HFIN.out 1 v2 w2 HX.out hown2 hgrow)
        clear hown2 hgrow HFIN
        go_wp2_with fail
        go_roundg (n - (j + 1))
        case measure => omega
        case rel => exact ⟨j + 1, _, by omega, rfl, rfl, by go_num, HN3.out.1, HN3.out.2⟩
    · obtain rfl : j = n := by omega
      have hjI : ¬ (j : Int) < (j : Int) := by omega
      obtain ⟨ro, rc, rfl, hle, hmx, hno, hold⟩ := own_form HD.out
      obtain ⟨g, rfl⟩ : ∃ g, ro = some ⟨g, 0, none⟩ := by
        cases ro with
        | none => have := (hno rfl).1; omega
        | some q => exact ⟨q.block, by obtain ⟨q1, q2, _⟩ := hold q rfl; obtain ⟨q3, q4, q5⟩ := q; simp only at q1 q2; subst q1 q2; rfl⟩
      have c := (hold _ rfl).2.2.2.2 (j - 1) _ (natCells_get _ (show j - 1 < j by omega))
      rw [HRES.out] at c
      have hj1 : ((j : Int) - 1) = ((j - 1 : Nat) : Int) := by omega
      have hw1 : IntKind.i64.wrap ((j : Int) - 1) = ((j - 1 : Nat) : Int) := (IntWalk.i64_in _ (by omega)).trans hj1
      have hj0 : ((j : Int) == 0) = false := beq_eq_false_iff_ne.2 (by omega)
      have hlt3 : j - 1 < rc := by omega
      have hm1 : ((j - 1 : Nat) : Int) < (j : Int) := by omega
      obtain ⟨m, hm⟩ : ∃ m, j - 1 = m := ⟨_, rfl⟩
      rw [hm] at c hw1 hlt3 hm1
      clear hj1 HRES hm hold hno HD
      go_wp2_with fail
      go_ret
      exact ⟨rfl, HK.out⟩
end Go.Proofs.Ytipcgjigkipcpaa
