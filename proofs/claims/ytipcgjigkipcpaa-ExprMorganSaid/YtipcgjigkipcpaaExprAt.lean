/-
  What a formula says at bits: the program's answer.
-/
import Derived.Test.YtipcgjigkipcpaaExprRights
import Derived.Test.YtipcgjigkipcpaaIteRows
set_option linter.unusedVariables false
set_option linter.unusedSimpArgs false
set_option linter.unnecessarySimpa false
namespace Go.Proofs.Ytipcgjigkipcpaa
open Go.ChangeShapes Go.WideShapes Go.ChangeAt Go.RowKit Go.Deep NodePlain
theorem val_ge (β : Nat → Bool) (l : List Sp) : ∀ i j, i ≤ j → valTo β l i j = false
  | 0, j, _ => rfl
  | i + 1, j, h => by
    unfold valTo
    rw [if_neg (by omega)]
    exact val_ge β l i j (by omega)
theorem RowAt.valNext {W : World} {b n : Nat} {β : Nat → Bool} {l : List Sp} {j : Nat} (h : RowAt W b n (valTo β l j)) (hj : j < n) {s : Sp} (hs : l[j]? = some s) {x : Bool} (hx : x = val1 β (valTo β l j) s) : RowAt (W.setCell ⟨b, j, none⟩ (.bool x)) b n (valTo β l (j + 1)) := by
  have q := h.set hj x
  refine q.congr fun i _ => ?_
  rw [valTo, getD_of hs, ← hx]
theorem RowAt.valSame {W : World} {b n : Nat} {β : Nat → Bool} {l : List Sp} {j : Nat} (h : RowAt W b n (valTo β l j)) {s : Sp} (hs : l[j]? = some s) (hx : val1 β (valTo β l j) s = false) : RowAt W b n (valTo β l (j + 1)) := by
  refine h.congr fun i _ => ?_
  rw [valTo, getD_of hs, hx]
  show valTo β l j i = if i = j then false else valTo β l j i
  by_cases e : i = j
  · rw [if_pos e, e, val_ge β l j j (Nat.le_refl _)]
  · rw [if_neg e]
theorem OkS.of {vars : Int} {i : Nat} {s : Sp} (h : OkS vars i s) : (s.op = 1 ∧ ∃ a : Nat, s.a = a ∧ (a : Int) < vars ∧ s.b = 0) ∨ (s.op = 2 ∧ ∃ a : Nat, s.a = a ∧ a < i ∧ s.b = 0) ∨ (∃ a b : Nat, s.a = a ∧ a < i ∧ s.b = b ∧ b < i ∧ (s.op = 3 ∨ s.op = 4 ∨ s.op = 5)) ∨ (s.a = 0 ∧ s.b = 0 ∧ (s.op = 6 ∨ s.op = 7)) := by
  rcases h with h | h | h | h
  · exact .inl ⟨h.1, s.a.toNat, by omega, by omega, h.2.2.2⟩
  · exact .inr (.inl ⟨h.1, s.a.toNat, by omega, by omega, h.2.2.2⟩)
  · exact .inr (.inr (.inl ⟨s.a.toNat, s.b.toNat, by omega, by omega, by omega, by omega, h.1⟩))
  · exact .inr (.inr (.inr ⟨h.2.1, h.2.2, h.1⟩))
set_option maxRecDepth 100000
set_option maxHeartbeats 3200000
theorem eat_spec (W : World) {X : Nat} (hX : X < 18446744073709551616) {vars : Int} {ao : Option Addr} {n cap : Nat} {l : List Sp} (hl : l.length = n) (hcap : n ≤ cap) (hr : SpRow W ao l) (hok : rightE vars l = true) :
    Calls Try.prog 74 #[.int .u64 X, .slice ao n cap] W fun e W' => e = .returned (.bool (atE X.testBit l)) ∧ Keeps (fun _ => False) W W' := by
  obtain ⟨i0, hi0, hz0, hz1, hz2⟩ := info_parts binfo
  have HR := Lib.hid hr
  have HL := Lib.hid hl
  obtain ⟨hv0, hv61, hn1, hn2⟩ := right_len hok
  rw [hl] at hn1 hn2
  have HOK : Hid (∀ j s, l[j]? = some s → OkS vars j s) := fun j s h => by
    have hj : j < l.length := by
      rcases Nat.lt_or_ge j l.length with h' | h'
      · exact h'
      · rw [List.getElem?_eq_none h'] at h; cases h
    have := right_at hok hj
    rw [getD_of h] at this
    exact this
  obtain ⟨β, hβ⟩ : ∃ β, X.testBit = β := ⟨_, rfl⟩
  have HSH : Hid (∀ v, (bits BinOp.and IntKind.u64 ((X : Int) / 2 ^ v) 1 == 1) = β v) := fun v => by rw [← hβ]; exact shr_test X v hX
  rw [hβ]
  obtain ⟨r, hr⟩ : ∃ r, atE β l = r := ⟨_, rfl⟩
  rw [hr]
  have HRES : Hid (valTo β l n (n - 1) = r) := by
    unfold atE at hr
    rw [hl] at hr
    exact hr
  clear hr hl hβ hok
  go_enter Try.func74, Try.ntmps74
  go_wp2_with (at_make; refine wpList_make_full _ rfl _ _ 64 rfl W.heap.size 4 i0 _ 1 Try.underlying64 hi0 hz0 hz1 .i64 .i64 _ _ n rfl rfl rfl rfl (by rw [hz2]; omega) (by unfold maxLen; omega) (Nat.le_refl _) ?_)
  intro w1 hown hgrow
  have k1 : Keeps (fun _ => False) W w1 := (keeps_grown hgrow).mono (fun _ _ h => by cases h)
  have hmade : RowAt w1 W.heap.size n (fun _ => false) := by
    have e := block_of_made (z := #[Value.bool false]) (size := 1) (n := n) (by rw [Nat.mul_one]; exact hown)
    have e2 := madeRow n
    unfold RowAt
    rw [e]
    exact congrArg (fun c => some (Obj.cells c _ _)) e2
  have HK := Lib.hid k1
  have HD := Lib.hid hmade
  clear hown hgrow k1 hmade
  go_wp2_with fail
  go_loopg [13] n (fun g t wy => ∃ (j : Nat), j ≤ n ∧ g = n - j ∧ t = .int .i64 j ∧ Hid (Keeps (fun _ => False) W wy) ∧ Hid (RowAt wy W.heap.size n (valTo β l j)))
  case atStart => exact ⟨0, Nat.zero_le _, rfl, rfl, HK, HD⟩
  case round =>
    clear HK HD
    obtain ⟨j, hj, rfl, rfl, HK, HD⟩ := hrel
    by_cases hlt : j < n
    · have hjI : (j : Int) < (n : Int) := by omega
      have hwj : IntKind.i64.wrap ((j : Int) + 1) = (j : Int) + 1 := IntWalk.i64_in _ (by omega)
      obtain ⟨⟨op, a, b⟩, hs⟩ : ∃ s, l[j]? = some s := ⟨_, List.getElem?_eq_getElem (by have := HL.out; omega)⟩
      obtain ⟨bb, off, rfl, hbb, hcc⟩ := HR.out.quiet HK.out (by have := HL.out; omega)
      obtain ⟨c0, c1, c2⟩ := hcc j _ hs
      simp only [] at c0 c1 c2
      have hjc : j < cap := by omega
      have hal := (MapKept.heap_alloc wr (.cells #[.int .i64 op, .int .i64 a, .int .i64 b] 107)).1
      have hk2 : Keeps (fun _ => False) W (wr.alloc (.cells #[.int .i64 op, .int .i64 a, .int .i64 b] 107)) := HK.out.alloc _
      have hr2 : RowAt (wr.alloc (.cells #[.int .i64 op, .int .i64 a, .int .i64 b] 107)) W.heap.size n (valTo β l j) := HD.out.keeps ((Keeps.refl (fun _ => False) _).alloc _) (fun x => x)
      have d0 := cell_of_heap hal 0
      have d1 := cell_of_heap hal 1
      have d2 := cell_of_heap hal 2
      simp only [List.getElem?_toArray, List.getElem?_cons_zero, List.getElem?_cons_succ] at d0 d1 d2
      have HO : Hid (OkS vars j ⟨op, a, b⟩) := HOK.out j _ hs
      have hlt2 := lt_of_heap hr2
      have fz := free_of_heap hr2 j
      obtain ⟨R, hR⟩ : ∃ R, valTo β l j = R := ⟨_, rfl⟩
      have HS := Lib.hid hs
      have HRV := Lib.hid hR
      have HK2 := Lib.hid hk2
      have HR2 := Lib.hid hr2
      clear hcc hal hk2 hs
      go_upto_region 5 with fail
      generalize wr.alloc (.cells #[.int .i64 op, .int .i64 a, .int .i64 b] 107) = w1 at *
      clear c0 c1 c2 HK HD hr2
      have HN : Hid (∀ x, x = val1 β R ⟨op, a, b⟩ → Keeps (fun _ => False) W (w1.setCell ⟨W.heap.size, j, none⟩ (.bool x)) ∧ RowAt (w1.setCell ⟨W.heap.size, j, none⟩ (.bool x)) W.heap.size n (valTo β l (j + 1))) := fun x hx => ⟨HK2.out.setCell (fun h => absurd h (Nat.lt_irrefl _)) _, HR2.out.valNext hlt HS.out (by rw [hx, HRV.out])⟩
      have HN7 : Hid (val1 β R ⟨op, a, b⟩ = false → RowAt w1 W.heap.size n (valTo β l (j + 1))) := fun h => HR2.out.valSame HS.out (by rw [HRV.out]; exact h)
      have HCL : Hid (∀ x, x < n → w1.cell? ⟨W.heap.size, x, none⟩ = some (.bool (R x))) := fun x hx => by rw [← HRV.out]; exact HR2.out.cell hx
      obtain ⟨rj, hrj⟩ : ∃ v, R j = v := ⟨_, rfl⟩
      have cw := HCL.out j hlt
      rw [hrj] at cw
      clear HRV HR2 hR HS hrj
      rcases HO.out.of with ⟨h1, av, ha, hav, hb⟩ | ⟨h2, av, ha, hav, hb⟩ | ⟨av, bv, ha, hav, hb, hbv, h345⟩ | ⟨ha, hb, h67⟩
      · (try simp only [] at h1 ha hb)
        subst h1 ha hb
        have hsh := HSH.out av
        obtain ⟨v, hv⟩ : ∃ v, β av = v := ⟨_, rfl⟩
        rw [hv] at hsh
        have ha0 : (0 : Int) ≤ (av : Int) := by omega
        have HX : v = val1 β R ⟨1, (av : Int), 0⟩ := by rw [← hv]; rfl
        have HN2 := HN.out v HX
        have HN3 := Lib.hid HN2
        clear HN HN2 HN7 HCL HO HX hv
        go_wp2_with fail
        go_roundg (n - (j + 1))
        case measure => omega
        case rel => exact ⟨j + 1, by omega, rfl, by go_num, HN3.out.1, HN3.out.2⟩
      · (try simp only [] at h2 ha hb)
        subst h2 ha hb
        have cA := HCL.out av (by omega)
        have havI : (av : Int) < (n : Int) := by omega
        have ha0 : (0 : Int) ≤ (av : Int) := by omega
        have hna : av < n := by omega
        obtain ⟨v, hv⟩ : ∃ v, R av = v := ⟨_, rfl⟩
        rw [hv] at cA
        have HX : (!v) = val1 β R ⟨2, (av : Int), 0⟩ := by rw [← hv]; rfl
        have HN2 := HN.out (!v) HX
        have HN3 := Lib.hid HN2
        clear HN HN2 HN7 HCL HO HX hv
        go_wp2_with fail
        go_roundg (n - (j + 1))
        case measure => omega
        case rel => exact ⟨j + 1, by omega, rfl, by go_num, HN3.out.1, HN3.out.2⟩
      · (try simp only [] at ha hb h345)
        subst ha hb
        have cA := HCL.out av (by omega)
        have cB := HCL.out bv (by omega)
        have havI : (av : Int) < (n : Int) := by omega
        have hbvI : (bv : Int) < (n : Int) := by omega
        have ha0 : (0 : Int) ≤ (av : Int) := by omega
        have hb0 : (0 : Int) ≤ (bv : Int) := by omega
        have hna : av < n := by omega
        have hnb : bv < n := by omega
        obtain ⟨va, hva⟩ : ∃ v, R av = v := ⟨_, rfl⟩
        obtain ⟨vb, hvb⟩ : ∃ v, R bv = v := ⟨_, rfl⟩
        rw [hva] at cA
        rw [hvb] at cB
        rcases h345 with h | h | h
        · subst h
          have HX : (va && vb) = val1 β R ⟨3, (av : Int), (bv : Int)⟩ := by rw [← hva, ← hvb]; rfl
          have HN2 := HN.out _ HX
          have HN3 := Lib.hid HN2
          clear HN HN2 HN7 HCL HO HX hva hvb
          cases va with
          | true =>
            simp only [Bool.true_and, Bool.false_and, Bool.true_or, Bool.false_or] at HN3
            go_wp2_with fail
            go_roundg (n - (j + 1))
            case measure => omega
            case rel => exact ⟨j + 1, by omega, rfl, by go_num, HN3.out.1, HN3.out.2⟩
          | false =>
            simp only [Bool.true_and, Bool.false_and, Bool.true_or, Bool.false_or] at HN3
            go_wp2_with fail
            go_roundg (n - (j + 1))
            case measure => omega
            case rel => exact ⟨j + 1, by omega, rfl, by go_num, HN3.out.1, HN3.out.2⟩
        · subst h
          have HX : (va || vb) = val1 β R ⟨4, (av : Int), (bv : Int)⟩ := by rw [← hva, ← hvb]; rfl
          have HN2 := HN.out _ HX
          have HN3 := Lib.hid HN2
          clear HN HN2 HN7 HCL HO HX hva hvb
          cases va with
          | true =>
            simp only [Bool.true_and, Bool.false_and, Bool.true_or, Bool.false_or] at HN3
            go_wp2_with fail
            go_roundg (n - (j + 1))
            case measure => omega
            case rel => exact ⟨j + 1, by omega, rfl, by go_num, HN3.out.1, HN3.out.2⟩
          | false =>
            simp only [Bool.true_and, Bool.false_and, Bool.true_or, Bool.false_or] at HN3
            go_wp2_with fail
            go_roundg (n - (j + 1))
            case measure => omega
            case rel => exact ⟨j + 1, by omega, rfl, by go_num, HN3.out.1, HN3.out.2⟩
        · subst h
          have HX : (va != vb) = val1 β R ⟨5, (av : Int), (bv : Int)⟩ := by rw [← hva, ← hvb]; rfl
          have HN2 := HN.out _ HX
          have HN3 : Hid (Keeps (fun _ => False) W (w1.setCell ⟨W.heap.size, j, none⟩ (.bool (va != vb))).drew ∧ RowAt (w1.setCell ⟨W.heap.size, j, none⟩ (.bool (va != vb))).drew W.heap.size n (valTo β l (j + 1))) := ⟨HN2.1.drew, HN2.2.keeps (Keeps.refl (fun _ => False) _).drew (fun x => x)⟩
          clear HN HN2 HN7 HCL HO HX hva hvb
          go_upto_region 15 with fail
          go_region
          go_wp2_with fail
          go_roundg (n - (j + 1))
          case measure => omega
          case rel => exact ⟨j + 1, by omega, rfl, by go_num, HN3.out.1, HN3.out.2⟩
      · (try simp only [] at ha hb h67)
        subst ha hb
        rcases h67 with h | h
        · subst h
          have HN2 := HN.out true rfl
          have HN3 := Lib.hid HN2
          clear HN HN2 HN7 HCL HO
          go_wp2_with fail
          go_roundg (n - (j + 1))
          case measure => omega
          case rel => exact ⟨j + 1, by omega, rfl, by go_num, HN3.out.1, HN3.out.2⟩
        · subst h
          have HN3 : Hid (Keeps (fun _ => False) W w1 ∧ RowAt w1 W.heap.size n (valTo β l (j + 1))) := ⟨HK2.out, HN7.out rfl⟩
          clear HN HN7 HCL HO
          go_wp2_with fail
          go_roundg (n - (j + 1))
          case measure => omega
          case rel => exact ⟨j + 1, by omega, rfl, by go_num, HN3.out.1, HN3.out.2⟩
    · obtain rfl : j = n := by omega
      have hjI : ¬ (j : Int) < (j : Int) := by omega
      have hj1 : ((j : Int) - 1) = ((j - 1 : Nat) : Int) := by omega
      have c := HD.out.cell (show j - 1 < j by omega)
      rw [HRES.out] at c
      have hw1 : IntKind.i64.wrap ((j : Int) - 1) = ((j - 1 : Nat) : Int) := (IntWalk.i64_in _ (by omega)).trans hj1
      have hlt3 : j - 1 < j := by omega
      obtain ⟨m, hm⟩ : ∃ m, j - 1 = m := ⟨_, rfl⟩
      rw [hm] at c hw1 hlt3
      have hm1 : (m : Int) < (j : Int) := by omega
      have hlb := lt_of_heap HD.out
      clear hj1 HRES hm
      go_wp2_with fail
      go_ret
      exact ⟨rfl, HK.out⟩
end Go.Proofs.Ytipcgjigkipcpaa
