/-
  How deep a formula is: the program's answer and the document's.
-/
import Derived.Test.YtipcgjigkipcpaaExprAt
import Derived.Test.YtipcgjigkipcpaaOrdRows
set_option linter.unusedVariables false
set_option linter.unusedSimpArgs false
set_option linter.unnecessarySimpa false
namespace Go.Proofs.Ytipcgjigkipcpaa
open Go.ChangeShapes Go.WideShapes Go.ChangeAt Go.RowKit Go.Deep NodePlain
theorem dep_ge (l : List Sp) : ∀ i j, i ≤ j → depTo l i j = 0
  | 0, j, _ => rfl
  | i + 1, j, h => by
    unfold depTo
    rw [if_neg (by omega)]
    exact dep_ge l i j (by omega)
def maxTo (D : Nat → Nat) (L : List Int) : Nat → Nat
  | 0 => 0
  | i + 1 => max (maxTo D L i) (D (L.getD i 0).toNat)
theorem dep1_max {vars : Int} {i : Nat} {s : Sp} (h : OkS vars i s) (D : Nat → Nat) : dep1 D s = maxTo D (standsL s) (standsL s).length + 1 := by
  unfold dep1 standsL
  rcases h with h | h | h | h
  · rw [if_neg (by omega), if_neg (by omega), if_neg (by omega), if_neg (by omega)]; rfl
  · rw [if_pos h.1, if_pos h.1]
    show _ = max 0 (D s.a.toNat) + 1
    omega
  · rw [if_neg (by omega), if_pos (by omega), if_neg (by omega), if_pos h.1]
    show _ = max (max 0 (D s.a.toNat)) (D s.b.toNat) + 1
    omega
  · rw [if_neg (by omega), if_neg (by omega), if_neg (by omega), if_neg (by omega)]; rfl
theorem max_le {D : Nat → Nat} {B : Nat} (h : ∀ x, D x ≤ B) (L : List Int) : ∀ i, maxTo D L i ≤ B
  | 0 => Nat.zero_le _
  | i + 1 => by
    have h1 := max_le h L i
    have h2 := h (L.getD i 0).toNat
    show max _ _ ≤ B
    omega
theorem stands_ok {vars : Int} {i : Nat} {s : Sp} (h : OkS vars i s) : ∀ x, x ∈ standsL s → 0 ≤ x ∧ x < (i : Int) := fun x hx => by
  by_cases e : 0 ≤ x ∧ x < (i : Int)
  · exact e
  · have := stands_out (vars := vars) hx e
    unfold okS at this
    rw [decide_eq_true h] at this
    cases this
set_option maxRecDepth 100000
set_option maxHeartbeats 3200000
theorem edepth_spec (W : World) {vars : Int} {ao : Option Addr} {n cap : Nat} {l : List Sp} (hl : l.length = n) (hcap : n ≤ cap) (hn2 : n ≤ 1000) (hr : SpRow W ao l) (hok : ∀ j s, l[j]? = some s → OkS vars j s) :
    Calls Try.prog 32 #[.slice ao n cap] W fun e W' => e = .returned (.int .i64 (depE l)) ∧ Keeps (fun _ => False) W W' := by
  obtain ⟨i0, hi0, hz0, hz1, hz2⟩ := info_parts iinfo
  have HR := Lib.hid hr
  have HL := Lib.hid hl
  have HOK := Lib.hid hok
  obtain ⟨r, hr⟩ : ∃ r, depE l = r := ⟨_, rfl⟩
  rw [hr]
  have HRES : Hid (depTo l n (n - 1) = r) := by
    unfold depE at hr
    rw [hl] at hr
    exact hr
  have HDL : Hid (∀ i j, depTo l i j ≤ i) := dep_le l
  clear hr hl hok
  go_enter Try.func32, Try.ntmps32
  go_wp2_with (at_make; refine wpList_make_full _ rfl _ _ 28 rfl W.heap.size 3 i0 _ 1 Try.underlying28 hi0 hz0 hz1 .i64 .i64 _ _ n rfl rfl rfl rfl (by rw [hz2]; omega) (by unfold maxLen; omega) (Nat.le_refl _) ?_)
  intro w1 hown hgrow
  have k1 : Keeps (fun _ => False) W w1 := (keeps_grown hgrow).mono (fun _ _ h => by cases h)
  have hmade : IRow w1 W.heap.size n (fun _ => 0) := by
    have e := block_of_made (z := #[Value.int .i64 0]) (size := 1) (n := n) (by rw [Nat.mul_one]; exact hown)
    have e2 := imade n
    unfold IRow
    rw [e]
    exact congrArg (fun c => some (Obj.cells c _ _)) e2
  have HK := Lib.hid k1
  have HD := Lib.hid hmade
  clear hown hgrow k1 hmade
  go_wp2_with fail
  go_loopg [4, 14] n (fun g la t wy => ∃ (j z : Nat), j ≤ n ∧ g = n - j ∧ la = .int .i64 z ∧ t = .int .i64 j ∧ Hid (depTo l j (j - 1) = z) ∧ Hid (Keeps (fun _ => False) W wy) ∧ Hid (IRow wy W.heap.size n (fun i => (depTo l j i : Nat))))
  case atStart => exact ⟨0, 0, Nat.zero_le _, rfl, rfl, rfl, rfl, HK, HD⟩
  case round =>
    clear HK HD
    obtain ⟨j, z, hj, rfl, rfl, rfl, HZ, HK, HD⟩ := hrel
    by_cases hlt : j < n
    · have hjI : (j : Int) < (n : Int) := by omega
      have hwj : IntKind.i64.wrap ((j : Int) + 1) = (j : Int) + 1 := IntWalk.i64_in _ (by omega)
      obtain ⟨s, hs⟩ : ∃ s, l[j]? = some s := ⟨_, List.getElem?_eq_getElem (by have := HL.out; omega)⟩
      obtain ⟨bb, off, rfl, hbb, hcc⟩ := HR.out.quiet HK.out (by have := HL.out; omega)
      obtain ⟨c0, c1, c2⟩ := hcc j _ hs
      have hjc : j < cap := by omega
      have HO : Hid (OkS vars j s) := HOK.out j _ hs
      have HS := Lib.hid (fun W' => stands_spec W' s)
      have HNX : Hid (∀ x, x = dep1 (depTo l j) s → ∀ w, IRow w W.heap.size n (fun i => if i = j then (x : Int) else (depTo l j i : Nat)) → IRow w W.heap.size n (fun i => (depTo l (j + 1) i : Nat))) := fun x hx w h => h.congr fun i hi => by
        rw [depTo, getD_of hs, ← hx]
        show (if i = j then (x : Int) else (depTo l j i : Nat)) = ((if i = j then x else depTo l j i : Nat) : Int)
        split <;> rfl
      have HLAST : Hid (∀ x, x = dep1 (depTo l j) s → depTo l (j + 1) (j + 1 - 1) = x) := fun x hx => by
        rw [show j + 1 - 1 = j from rfl, depTo, getD_of hs]
        show (if j = j then _ else _) = x
        rw [if_pos rfl, hx]
      have hst := stands_len s
      have HM : Hid (dep1 (depTo l j) s = maxTo (depTo l j) (standsL s) (standsL s).length + 1) := dep1_max HO.out _
      have HIN : Hid (∀ x, x ∈ standsL s → 0 ≤ x ∧ x < (j : Int)) := stands_ok HO.out
      obtain ⟨L, hL⟩ : ∃ L, standsL s = L := ⟨_, rfl⟩
      obtain ⟨Q, hQ⟩ : ∃ Q, depTo l j = Q := ⟨_, rfl⟩
      have HQB : Hid (∀ x, Q x ≤ j) := fun x => by rw [← hQ]; exact HDL.out j x
      have hD0 : IRow wr W.heap.size n (fun i => if i = j then ((0 : Nat) : Int) else (Q i : Nat)) := HD.out.congr fun i hi => by
        by_cases e : i = j
        · rw [if_pos e, e, dep_ge l j j (Nat.le_refl _)]
        · rw [if_neg e, ← hQ]
      rw [hL] at HS HM HIN hst
      rw [hQ] at HM HNX HLAST
      obtain ⟨op, a, b⟩ := s
      unfold spV at HS
      simp only [] at c0 c1 c2 HS
      have hal := (MapKept.heap_alloc wr (.cells #[.int .i64 op, .int .i64 a, .int .i64 b] 107)).1
      have hk2 : Keeps (fun _ => False) W (wr.alloc (.cells #[.int .i64 op, .int .i64 a, .int .i64 b] 107)) := HK.out.alloc _
      have hr2 : IRow (wr.alloc (.cells #[.int .i64 op, .int .i64 a, .int .i64 b] 107)) W.heap.size n (fun i => if i = j then ((0 : Nat) : Int) else (Q i : Nat)) := hD0.keeps ((Keeps.refl (fun _ => False) _).alloc _) (fun x => x)
      have d0 := cell_of_heap hal 0
      have d1 := cell_of_heap hal 1
      have d2 := cell_of_heap hal 2
      simp only [List.getElem?_toArray, List.getElem?_cons_zero, List.getElem?_cons_succ] at d0 d1 d2
      have HK2 := Lib.hid hk2
      have HR2 := Lib.hid hr2
      clear hcc hal hk2 hs hL hQ hr2 hD0
      go_upto_region 6 with fail
      generalize wr.alloc (.cells #[.int .i64 op, .int .i64 a, .int .i64 b] 107) = w1 at *
      clear c0 c1 c2 HK HD HO HZ
      go_wp2_with fail
      refine (HS.out w1).mono ?_
      rintro e w2 ⟨so, rfl, h2⟩
      have HKA := Lib.hid (HK2.out.trans h2.out.1)
      have HRA := Lib.hid (HR2.out.keeps h2.out.1 (fun x => x))
      have HNR := Lib.hid h2.out.2.1
      have hsz2 := HK2.out.size
      have HF : Hid (∀ b off, so = some ⟨b, off, none⟩ → w1.heap.size ≤ b) := h2.out.2.2
      have hlw := lt_of_heap HR2.out
      clear h2 HK2 HR2 d0 d1 d2 hsz2
      have HLX : Hid (∀ j, j < L.length → ∃ x, L[j]? = some x) := fun j hj => ⟨_, List.getElem?_eq_getElem hj⟩
      obtain ⟨m, hm⟩ : ∃ m, L.length = m := ⟨_, rfl⟩
      rw [hm] at HLX HM hst ⊢
      have HLM := Lib.hid hm
      clear hm
      go_wp2_with fail
      go_loopg [22] m (fun g t wy => ∃ (i M : Nat), i ≤ m ∧ g = m - i ∧ t = .int .i64 i ∧ Hid (maxTo Q L i = M) ∧ Hid (Keeps (fun _ => False) W wy) ∧ Hid (Keeps (fun x => x = W.heap.size) w2 wy) ∧ Hid (IRow wy W.heap.size n (fun i => if i = j then (M : Int) else (Q i : Nat))))
      case atStart => exact ⟨0, 0, Nat.zero_le _, rfl, rfl, rfl, HKA, Keeps.refl _ _, HRA⟩
      case round =>
        clear HKA HRA
        obtain ⟨i, M, hi, rfl, rfl, HMX, HK, HKW, HD⟩ := hrel
        have hMb : M ≤ j := by rw [← HMX.out]; exact max_le HQB.out L i
        by_cases hlt2 : i < m
        · have hiI : (i : Int) < (m : Int) := by omega
          have hwi : IntKind.i64.wrap ((i : Int) + 1) = (i : Int) + 1 := IntWalk.i64_in _ (by omega)
          obtain ⟨x, hx⟩ := HLX.out i hlt2
          obtain ⟨hx0, hxj⟩ := HIN.out x (List.mem_of_getElem? hx)
          obtain ⟨av, rfl⟩ := Int.eq_ofNat_of_zero_le hx0
          obtain ⟨g, rfl, hg, hcc⟩ := HNR.out (by have := HLM.out; omega)
          have c : wr.cell? ⟨g, i, none⟩ = some (.int .i64 (av : Int)) := (HKW.out.cell (p := ⟨g, i, none⟩) hg (fun e => by have h1 := HF.out g 0 rfl; have h2 : g = W.heap.size := e; omega)).trans (hcc i _ hx)
          have hgw : g < wr.heap.size := Nat.lt_of_lt_of_le hg HKW.out.size
          have hav : av < j := by omega
          have havn : av < n := by omega
          have havI : (av : Int) < (n : Int) := by omega
          have q1 := HD.out.cell hlt
          have q2 := HD.out.cell havn
          simp only [if_pos] at q1
          simp only [if_neg (show ¬ av = j by omega)] at q2
          have fz := free_of_heap HD.out j
          have hlb := lt_of_heap HD.out
          obtain ⟨y, hy⟩ : ∃ y, Q av = y := ⟨_, rfl⟩
          have hyb : y ≤ j := by rw [← hy]; exact HQB.out av
          rw [hy] at q2
          have HMN : Hid (maxTo Q L (i + 1) = max M y) := by
            show max (maxTo Q L i) (Q (L.getD i 0).toNat) = max M y
            rw [HMX.out, List.getD_eq_getElem?_getD, hx]
            show max M (Q ((av : Int)).toNat) = max M y
            rw [Int.toNat_natCast, hy]
          have HST : Hid (∀ z : Nat, z = max M y → Keeps (fun _ => False) W (wr.setCell ⟨W.heap.size, j, none⟩ (.int .i64 z)).drew ∧ Keeps (fun x => x = W.heap.size) w2 (wr.setCell ⟨W.heap.size, j, none⟩ (.int .i64 z)).drew ∧ IRow (wr.setCell ⟨W.heap.size, j, none⟩ (.int .i64 z)).drew W.heap.size n (fun i => if i = j then (z : Int) else (Q i : Nat))) := fun z hz =>
            ⟨(HK.out.setCell (fun h => absurd h (Nat.lt_irrefl _)) _).drew, (HKW.out.setCell (fun _ => rfl) _).drew, ((HD.out.set hlt z).keeps (Keeps.refl (fun _ => False) _).drew (fun x => x)).congr fun i hi => by
              by_cases e : i = j
              · rw [if_pos e, if_pos e]
              · rw [if_neg e, if_neg e, if_neg e]⟩
          clear hcc hx hy HK HKW HD HMX
          by_cases hMy : M < y
          · have hMyI : (M : Int) < (y : Int) := by omega
            have hmx : max M y = y := by omega
            have hmI : max (M : Int) (y : Int) = (y : Int) := by omega
            rw [hmx] at HMN
            have HS2 := Lib.hid (HST.out y hmx.symm)
            clear HST hmx
            go_upto_region 10 with fail
            go_region
            go_wp2_with fail
            go_roundg (m - (i + 1))
            case measure => omega
            case rel => exact ⟨i + 1, y, by omega, rfl, by go_num, HMN, HS2.out.1, HS2.out.2.1, HS2.out.2.2⟩
          · have hMyI : ¬ (M : Int) < (y : Int) := by omega
            have hmx : max M y = M := by omega
            have hmI : max (M : Int) (y : Int) = (M : Int) := by omega
            rw [hmx] at HMN
            have HS2 := Lib.hid (HST.out M hmx.symm)
            clear HST hmx
            go_upto_region 10 with fail
            go_region
            go_wp2_with fail
            go_roundg (m - (i + 1))
            case measure => omega
            case rel => exact ⟨i + 1, M, by omega, rfl, by go_num, HMN, HS2.out.1, HS2.out.2.1, HS2.out.2.2⟩
        · have hiI : ¬ (i : Int) < (m : Int) := by omega
          obtain rfl : i = m := by omega
          have q1 := HD.out.cell hlt
          simp only [if_pos] at q1
          have fz := free_of_heap HD.out j
          have hlb := lt_of_heap HD.out
          have hwM : IntKind.i64.wrap ((M : Int) + 1) = ((M + 1 : Nat) : Int) := (IntWalk.i64_in _ (by omega)).trans (by omega)
          have HEQ : Hid (M + 1 = dep1 Q ⟨op, a, b⟩) := by
            show M + 1 = _
            rw [HM.out, HMX.out]
          have HST : Hid (Keeps (fun _ => False) W (wr.setCell ⟨W.heap.size, j, none⟩ (.int .i64 ((M + 1 : Nat) : Int))) ∧ IRow (wr.setCell ⟨W.heap.size, j, none⟩ (.int .i64 ((M + 1 : Nat) : Int))) W.heap.size n (fun i => (depTo l (j + 1) i : Nat))) :=
            ⟨HK.out.setCell (fun h => absurd h (Nat.lt_irrefl _)) _, HNX.out (M + 1) HEQ.out _ ((HD.out.set hlt ((M + 1 : Nat) : Int)).congr fun i hi => by
              by_cases e : i = j
              · rw [if_pos e, if_pos e]
              · rw [if_neg e, if_neg e, if_neg e])⟩
          have HLA := Lib.hid (HLAST.out (M + 1) HEQ.out)
          clear HK HKW HD HMX HEQ HNX HLAST HM
          generalize M + 1 = M1 at *
          go_wp2_with fail
          go_roundg (n - (j + 1))
          case measure => omega
          case rel => exact ⟨j + 1, M1, by omega, rfl, rfl, by go_num, HLA, HST.out.1, HST.out.2⟩
    · have hjI : ¬ (j : Int) < (n : Int) := by omega
      obtain rfl : j = n := by omega
      have hzr : z = r := by rw [← HZ.out, ← HRES.out]
      subst hzr
      go_wp2_with fail
      go_ret
      exact ⟨rfl, HK.out⟩
end Go.Proofs.Ytipcgjigkipcpaa
