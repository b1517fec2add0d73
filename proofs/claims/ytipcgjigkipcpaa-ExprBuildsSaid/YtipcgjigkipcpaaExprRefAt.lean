/-
  What a formula says at bits: the document's answer.
-/
import Derived.Test.YtipcgjigkipcpaaExprAt
set_option linter.unusedVariables false
set_option linter.unusedSimpArgs false
set_option linter.unnecessarySimpa false
namespace Go.Proofs.Ytipcgjigkipcpaa
open Go.ChangeShapes Go.WideShapes Go.ChangeAt Go.RowKit Go.Deep NodePlain
def boolCells (R : Nat → Bool) (n : Nat) : List Value := (List.range n).map fun i => .bool (R i)
theorem boolCells_len (R : Nat → Bool) (n : Nat) : (boolCells R n).length = n := by simp [boolCells]
theorem boolCells_get (R : Nat → Bool) {n i : Nat} (h : i < n) : (boolCells R n)[i]? = some (.bool (R i)) := by simp [boolCells, h]
theorem boolCells_next {R Q : Nat → Bool} {n : Nat} {x : Bool} (h : ∀ i, i < n → R i = Q i) (hx : x = Q n) : boolCells R n ++ [.bool x] = boolCells Q (n + 1) := by
  unfold boolCells
  rw [List.range_succ, List.map_append, hx]
  congr 1
  exact List.map_congr_left fun i hi => by rw [h i (List.mem_range.1 hi)]
theorem valTo_next {β : Nat → Bool} {l : List Sp} {j : Nat} {s : Sp} (hs : l[j]? = some s) {x : Bool} (hx : x = val1 β (valTo β l j) s) : boolCells (valTo β l j) j ++ [.bool x] = boolCells (valTo β l (j + 1)) (j + 1) := by
  refine boolCells_next (fun i hi => ?_) ?_
  · show valTo β l j i = if i = j then _ else valTo β l j i
    rw [if_neg (by omega)]
  · show x = if j = j then _ else _
    rw [if_pos rfl, getD_of hs, hx]
theorem testBit_half (X i : Nat) : (X / 2 ^ (i + 1)) = (X / 2 ^ i) / 2 := by rw [Nat.pow_succ, Nat.div_div_eq_div_mul]
set_option maxRecDepth 100000
set_option maxHeartbeats 3200000
theorem rbit_spec (W : World) {X : Nat} (hX : X < 18446744073709551616) {k : Nat} (hk : k ≤ 1000) : Calls Try.prog 76 #[.int .u64 X, .int .i64 k] W fun e W' => e = .returned (.bool (X.testBit k)) ∧ W = W' := by
  have HX := Lib.hid (rfl : X / 2 ^ 0 = X / 2 ^ 0)
  have HH : Hid (∀ i, (X / 2 ^ (i + 1)) = (X / 2 ^ i) / 2 ∧ X / 2 ^ i < 18446744073709551616) := fun i => ⟨testBit_half X i, Nat.lt_of_le_of_lt (Nat.div_le_self _ _) hX⟩
  have H0 : Hid (X / 2 ^ 0 = X) := by show X / 2 ^ 0 = X; simp
  obtain ⟨r, hr⟩ : ∃ r, X.testBit k = r := ⟨_, rfl⟩
  have HR : Hid (decide (X / 2 ^ k % 2 = 1) = r) := by show decide (X / 2 ^ k % 2 = 1) = r; rw [← hr, Nat.testBit_eq_decide_div_mod_eq]
  rw [hr]
  clear hr HX hX
  go_enter Try.func76, Try.ntmps76
  go_wp2_with fail
  go_loopg [0, 5] k (fun g s t wy => ∃ (i Y : Nat), i ≤ k ∧ g = k - i ∧ s = .int .u64 Y ∧ t = .int .i64 i ∧ Hid (X / 2 ^ i = Y) ∧ wy = W)
  case atStart => exact ⟨0, X, Nat.zero_le _, rfl, rfl, rfl, H0, rfl⟩
  case round =>
    obtain ⟨i, Y, hi, rfl, rfl, rfl, HY, rfl⟩ := hrel
    by_cases hlt : i < k
    · have hiI : (i : Int) < (k : Int) := by omega
      have hwi : IntKind.i64.wrap ((i : Int) + 1) = (i : Int) + 1 := IntWalk.i64_in _ (by omega)
      obtain ⟨q1, q2⟩ := HH.out i
      rw [HY.out] at q1 q2
      have hq : ((Y : Int)).tdiv 2 = ((Y / 2 : Nat) : Int) := by rw [Int.tdiv_eq_ediv_of_nonneg (by omega)]; simp
      have hw : IntKind.u64.wrap (((Y / 2 : Nat)) : Int) = ((Y / 2 : Nat) : Int) := IntWalk.u64_in _ (by omega)
      have HQ := Lib.hid q1
      generalize Y / 2 = Z at hq hw HQ
      clear q1 q2
      go_wp2_with fail
      go_roundg (k - (i + 1))
      case measure => omega
      case rel => exact ⟨i + 1, Z, by omega, rfl, by go_num, by go_num, HQ.out, rfl⟩
    · have hiI : ¬ (i : Int) < (k : Int) := by omega
      obtain rfl : i = k := by omega
      have hm : ((Y : Int)).tmod 2 = ((Y % 2 : Nat) : Int) := by rw [Int.tmod_eq_emod_of_nonneg (by omega)]; simp
      have HR2 := HR.out
      rw [HY.out] at HR2
      have h2 : Y % 2 = 0 ∨ Y % 2 = 1 := by omega
      clear HH H0 HY HR
      rcases h2 with h | h
      · rw [h] at hm HR2
        have : r = false := by rw [← HR2]; rfl
        subst this
        clear HR2 h
        go_wp2_with fail
        go_ret
        exact ⟨rfl, rfl⟩
      · rw [h] at hm HR2
        have : r = true := by rw [← HR2]; rfl
        subst this
        clear HR2 h
        go_wp2_with fail
        go_ret
        exact ⟨rfl, rfl⟩
theorem rat19_spec (W : World) {X : Nat} (hX : X < 18446744073709551616) {vars : Int} {ao : Option Addr} {n cap : Nat} {l : List Sp} (hl : l.length = n) (hcap : n ≤ cap) (hr : SpRow W ao l) (hok : rightE vars l = true) :
    Calls Try.prog 31 #[.int .u64 X, .slice ao n cap] W fun e W' => e = .returned (.bool (atE X.testBit l)) ∧ Keeps (fun _ => False) W W' := by
  obtain ⟨i0, hi0, hz0, hz1, hz2⟩ := info_parts binfo
  have HR := Lib.hid hr
  have HL := Lib.hid hl
  obtain ⟨hv0, hv61, hn1, hn2⟩ := right_len hok
  rw [hl] at hn1 hn2
  have HOK : Hid (∀ j s, l[j]? = some s → OkS vars j s) := fun j s h => by
    have hj : j < l.length := by
      rcases Nat.lt_or_ge j l.length with h' | h'
      · exact h'
      · rw [List.getElem?_eq_none h'] at h; cases h
    have := right_at hok hj
    rw [getD_of h] at this
    exact this
  obtain ⟨β, hβ⟩ : ∃ β, X.testBit = β := ⟨_, rfl⟩
  have HBIT : Hid (∀ (W : World) (v : Nat), v ≤ 1000 → Calls Try.prog 76 #[.int .u64 X, .int .i64 v] W fun e W' => e = .returned (.bool (β v)) ∧ W = W') := fun W v hv => by rw [← hβ]; exact rbit_spec W hX hv
  rw [hβ]
  obtain ⟨r, hr⟩ : ∃ r, atE β l = r := ⟨_, rfl⟩
  rw [hr]
  have HRES : Hid (valTo β l n (n - 1) = r) := by
    unfold atE at hr
    rw [hl] at hr
    exact hr
  clear hr hl hβ hok
  go_enter Try.func31, Try.ntmps31
  go_wp2_with fail
  go_loopg [5, 11] n (fun g so t wy => ∃ (j : Nat) (v : Value), j ≤ n ∧ g = n - j ∧ v = so ∧ t = .int .i64 j ∧ Hid (Keeps (fun _ => False) W wy) ∧ Hid (wy.ownsRow W.heap.size 4 1 v j (boolCells (valTo β l j) j)))
  case atStart => exact ⟨0, .slice none 0 0, Nat.zero_le _, rfl, rfl, rfl, Keeps.refl _ _, World.ownsRow_nil W _ _ _⟩
  case round =>
    obtain ⟨j, v, hj, rfl, rfl, rfl, HK, HD⟩ := hrel
    by_cases hlt : j < n
    · have hjI : (j : Int) < (n : Int) := by omega
      have hwj : IntKind.i64.wrap ((j : Int) + 1) = (j : Int) + 1 := IntWalk.i64_in _ (by omega)
      obtain ⟨⟨op, a, b⟩, hs⟩ : ∃ s, l[j]? = some s := ⟨_, List.getElem?_eq_getElem (by have := HL.out; omega)⟩
      obtain ⟨bb, off, rfl, hbb, hcc⟩ := HR.out.quiet HK.out (by have := HL.out; omega)
      obtain ⟨c0, c1, c2⟩ := hcc j _ hs
      simp only [] at c0 c1 c2
      have hjc : j < cap := by omega
      have hal := (MapKept.heap_alloc wr (.cells #[.int .i64 op, .int .i64 a, .int .i64 b] 58)).1
      have hk2 : Keeps (fun _ => False) W (wr.alloc (.cells #[.int .i64 op, .int .i64 a, .int .i64 b] 58)) := HK.out.alloc _
      have how : (wr.alloc (.cells #[.int .i64 op, .int .i64 a, .int .i64 b] 58)).ownsRow W.heap.size 4 1 v j (boolCells (valTo β l j) j) := HD.out.alloc _
      have d0 := cell_of_heap hal 0
      have d1 := cell_of_heap hal 1
      have d2 := cell_of_heap hal 2
      simp only [List.getElem?_toArray, List.getElem?_cons_zero, List.getElem?_cons_succ] at d0 d1 d2
      have HO : Hid (OkS vars j ⟨op, a, b⟩) := HOK.out j _ hs
      have HNX : Hid (∀ x, x = val1 β (valTo β l j) ⟨op, a, b⟩ → boolCells (valTo β l j) j ++ [.bool x] = boolCells (valTo β l (j + 1)) (j + 1)) := fun x hx => valTo_next hs hx
      have HCL0 : Hid (∀ x, x < j → (boolCells (valTo β l j) j)[x]? = some (.bool (valTo β l j x))) := fun x hx => boolCells_get _ hx
      have HLN : Hid ((boolCells (valTo β l j) j).length = j) := boolCells_len _ _
      obtain ⟨R, hR⟩ : ∃ R, valTo β l j = R := ⟨_, rfl⟩
      rw [hR] at HNX HCL0 how HLN
      generalize boolCells R j = cs at *
      have HW := Lib.hid how
      have HK2 := Lib.hid hk2
      clear hcc hal hk2 hs hR
      go_upto_region 6 with fail
      generalize wr.alloc (.cells #[.int .i64 op, .int .i64 a, .int .i64 b] 58) = w1 at *
      clear c0 c1 c2 HK HD how
      have HFIN : Hid (∀ x v2 w2, x = val1 β R ⟨op, a, b⟩ → w2.ownsRow W.heap.size 4 1 v2 (j + 1) (cs ++ [.bool x]) → (w1.alloc (.cells #[.bool x] 4)).grownBy w2 v.ownBlock → Keeps (fun _ => False) W w2 ∧ w2.ownsRow W.heap.size 4 1 v2 (j + 1) (boolCells (valTo β l (j + 1)) (j + 1))) := fun x v2 w2 hx ho hg => by
        refine ⟨(HK2.out.alloc _).trans_new (keeps_grown hg) (fun k hk e => ?_), ?_⟩
        · have := own_block HW.out k e; omega
        · rw [← HNX.out x hx]; exact ho
      rcases HO.out.of with ⟨h1, av, ha, hav, hb⟩ | ⟨h2, av, ha, hav, hb⟩ | ⟨av, bv, ha, hav, hb, hbv, h345⟩ | ⟨ha, hb, h67⟩
      · (try simp only [] at h1 ha hb)
        subst h1 ha hb
        have HB := Lib.hid (HBIT.out w1 av (by omega))
        obtain ⟨x, hv⟩ : ∃ v, β av = v := ⟨_, rfl⟩
        rw [hv] at HB
        have HX : Hid (x = val1 β R ⟨1, (av : Int), 0⟩) := by show x = _; rw [← hv]; rfl
        clear hv HCL0 HO HNX
        go_wp2_with fail
        refine HB.out.mono ?_
        rintro e w' ⟨rfl, rfl⟩
        clear HB
        go_wp2_with (at_builtin; refine wpList_append_own _ rfl _ _ 64 rfl W.heap.size 4 i0 _ 1 1 Try.underlying64 hi0 hz0 hz1 hz2 rfl (by decide) _ _ _ rfl (HW.out.alloc _) ⟨w1.heap.size, 0, none⟩ 1 1 [.bool x] rfl rfl (cells_new w1 _ _) (by intro u hu; simp only [List.mem_cons, List.not_mem_nil, or_false] at hu; subst hu; rfl) (by unfold maxLen; omega) (by omega) (by have := HK2.out.size; simp; omega) ?_)
        intro v2 w2 hown2 hgrow _
        have HN3 := Lib.hid (HFIN.out x v2 w2 HX.out hown2 hgrow)
        clear hown2 hgrow HFIN
        go_wp2_with fail
        go_roundg (n - (j + 1))
        case measure => omega
        case rel => exact ⟨j + 1, _, by omega, rfl, rfl, by go_num, HN3.out.1, HN3.out.2⟩
      · (try simp only [] at h2 ha hb)
        subst h2 ha hb
        obtain ⟨ro, rc, rfl, hle, hmx, hno, hold⟩ := own_form HW.out
        obtain ⟨g, rfl⟩ : ∃ g, ro = some ⟨g, 0, none⟩ := by
          cases ro with
          | none => have := (hno rfl).1; omega
          | some q => exact ⟨q.block, by obtain ⟨q1, q2, _⟩ := hold q rfl; obtain ⟨q3, q4, q5⟩ := q; simp only at q1 q2; subst q1 q2; rfl⟩
        have hold2 := (hold _ rfl).2.2.2.2
        have cA := hold2 av _ (HCL0.out av hav)
        have havI : (av : Int) < (j : Int) := by omega
        have ha0 : (0 : Int) ≤ (av : Int) := by omega
        have hac : av < rc := by omega
        obtain ⟨va, hv⟩ : ∃ v, R av = v := ⟨_, rfl⟩
        rw [hv] at cA
        have HX : Hid ((!va) = val1 β R ⟨2, (av : Int), 0⟩) := by show (!va) = _; rw [← hv]; rfl
        clear hv HCL0 HO HNX hold hold2 hno
        go_wp2_with (at_builtin; refine wpList_append_own _ rfl _ _ 64 rfl W.heap.size 4 i0 _ 1 1 Try.underlying64 hi0 hz0 hz1 hz2 rfl (by decide) _ _ _ rfl (HW.out.alloc _) ⟨w1.heap.size, 0, none⟩ 1 1 [.bool (!va)] rfl rfl (cells_new w1 _ _) (by intro u hu; simp only [List.mem_cons, List.not_mem_nil, or_false] at hu; subst hu; rfl) (by unfold maxLen; omega) (by omega) (by have := HK2.out.size; simp; omega) ?_)
        intro v2 w2 hown2 hgrow _
        have HN3 := Lib.hid (HFIN.out (!va) v2 w2 HX.out hown2 hgrow)
        clear hown2 hgrow HFIN
        go_wp2_with fail
        go_roundg (n - (j + 1))
        case measure => omega
        case rel => exact ⟨j + 1, _, by omega, rfl, rfl, by go_num, HN3.out.1, HN3.out.2⟩
      · (try simp only [] at ha hb h345)
        subst ha hb
        obtain ⟨ro, rc, rfl, hle, hmx, hno, hold⟩ := own_form HW.out
        obtain ⟨g, rfl⟩ : ∃ g, ro = some ⟨g, 0, none⟩ := by
          cases ro with
          | none => have := (hno rfl).1; omega
          | some q => exact ⟨q.block, by obtain ⟨q1, q2, _⟩ := hold q rfl; obtain ⟨q3, q4, q5⟩ := q; simp only at q1 q2; subst q1 q2; rfl⟩
        have hold2 := (hold _ rfl).2.2.2.2
        have cA := hold2 av _ (HCL0.out av hav)
        have cB := hold2 bv _ (HCL0.out bv hbv)
        have havI : (av : Int) < (j : Int) := by omega
        have hbvI : (bv : Int) < (j : Int) := by omega
        have ha0 : (0 : Int) ≤ (av : Int) := by omega
        have hb0 : (0 : Int) ≤ (bv : Int) := by omega
        have hac : av < rc := by omega
        have hbc : bv < rc := by omega
        obtain ⟨va, hva⟩ : ∃ v, R av = v := ⟨_, rfl⟩
        obtain ⟨vb, hvb⟩ : ∃ v, R bv = v := ⟨_, rfl⟩
        rw [hva] at cA
        rw [hvb] at cB
        rcases h345 with h | h | h
        · subst h
          have HX : Hid ((va && vb) = val1 β R ⟨3, (av : Int), (bv : Int)⟩) := by show (va && vb) = _; rw [← hva, ← hvb]; rfl
          clear hva hvb HCL0 HO HNX hold hold2 hno
          cases va with
          | true =>
            have HX2 : Hid (vb = val1 β R ⟨3, (av : Int), (bv : Int)⟩) := by show vb = _; rw [← HX.out]; cases vb <;> rfl
            clear HX
            go_wp2_with (at_builtin; refine wpList_append_own _ rfl _ _ 64 rfl W.heap.size 4 i0 _ 1 1 Try.underlying64 hi0 hz0 hz1 hz2 rfl (by decide) _ _ _ rfl (HW.out.alloc _) ⟨w1.heap.size, 0, none⟩ 1 1 [.bool vb] rfl rfl (cells_new w1 _ _) (by intro u hu; simp only [List.mem_cons, List.not_mem_nil, or_false] at hu; subst hu; rfl) (by unfold maxLen; omega) (by omega) (by have := HK2.out.size; simp; omega) ?_)
            intro v2 w2 hown2 hgrow _
            have HN3 := Lib.hid (HFIN.out vb v2 w2 HX2.out hown2 hgrow)
            clear hown2 hgrow HFIN
            go_wp2_with fail
            go_roundg (n - (j + 1))
            case measure => omega
            case rel => exact ⟨j + 1, _, by omega, rfl, rfl, by go_num, HN3.out.1, HN3.out.2⟩
          | false =>
            have HX2 : Hid (false = val1 β R ⟨3, (av : Int), (bv : Int)⟩) := by show false = _; rw [← HX.out]; cases vb <;> rfl
            clear HX
            go_wp2_with (at_builtin; refine wpList_append_own _ rfl _ _ 64 rfl W.heap.size 4 i0 _ 1 1 Try.underlying64 hi0 hz0 hz1 hz2 rfl (by decide) _ _ _ rfl (HW.out.alloc _) ⟨w1.heap.size, 0, none⟩ 1 1 [.bool false] rfl rfl (cells_new w1 _ _) (by intro u hu; simp only [List.mem_cons, List.not_mem_nil, or_false] at hu; subst hu; rfl) (by unfold maxLen; omega) (by omega) (by have := HK2.out.size; simp; omega) ?_)
            intro v2 w2 hown2 hgrow _
            have HN3 := Lib.hid (HFIN.out false v2 w2 HX2.out hown2 hgrow)
            clear hown2 hgrow HFIN
            go_wp2_with fail
            go_roundg (n - (j + 1))
            case measure => omega
            case rel => exact ⟨j + 1, _, by omega, rfl, rfl, by go_num, HN3.out.1, HN3.out.2⟩
        · subst h
          have HX : Hid ((va || vb) = val1 β R ⟨4, (av : Int), (bv : Int)⟩) := by show (va || vb) = _; rw [← hva, ← hvb]; rfl
          clear hva hvb HCL0 HO HNX hold hold2 hno
          cases va with
          | true =>
            have HX2 : Hid (true = val1 β R ⟨4, (av : Int), (bv : Int)⟩) := by show true = _; rw [← HX.out]; cases vb <;> rfl
            clear HX
            go_wp2_with (at_builtin; refine wpList_append_own _ rfl _ _ 64 rfl W.heap.size 4 i0 _ 1 1 Try.underlying64 hi0 hz0 hz1 hz2 rfl (by decide) _ _ _ rfl (HW.out.alloc _) ⟨w1.heap.size, 0, none⟩ 1 1 [.bool true] rfl rfl (cells_new w1 _ _) (by intro u hu; simp only [List.mem_cons, List.not_mem_nil, or_false] at hu; subst hu; rfl) (by unfold maxLen; omega) (by omega) (by have := HK2.out.size; simp; omega) ?_)
            intro v2 w2 hown2 hgrow _
            have HN3 := Lib.hid (HFIN.out true v2 w2 HX2.out hown2 hgrow)
            clear hown2 hgrow HFIN
            go_wp2_with fail
            go_roundg (n - (j + 1))
            case measure => omega
            case rel => exact ⟨j + 1, _, by omega, rfl, rfl, by go_num, HN3.out.1, HN3.out.2⟩
          | false =>
            have HX2 : Hid (vb = val1 β R ⟨4, (av : Int), (bv : Int)⟩) := by show vb = _; rw [← HX.out]; cases vb <;> rfl
            clear HX
            go_wp2_with (at_builtin; refine wpList_append_own _ rfl _ _ 64 rfl W.heap.size 4 i0 _ 1 1 Try.underlying64 hi0 hz0 hz1 hz2 rfl (by decide) _ _ _ rfl (HW.out.alloc _) ⟨w1.heap.size, 0, none⟩ 1 1 [.bool vb] rfl rfl (cells_new w1 _ _) (by intro u hu; simp only [List.mem_cons, List.not_mem_nil, or_false] at hu; subst hu; rfl) (by unfold maxLen; omega) (by omega) (by have := HK2.out.size; simp; omega) ?_)
            intro v2 w2 hown2 hgrow _
            have HN3 := Lib.hid (HFIN.out vb v2 w2 HX2.out hown2 hgrow)
            clear hown2 hgrow HFIN
            go_wp2_with fail
            go_roundg (n - (j + 1))
            case measure => omega
            case rel => exact ⟨j + 1, _, by omega, rfl, rfl, by go_num, HN3.out.1, HN3.out.2⟩
        · subst h
          have HX : Hid ((va != vb) = val1 β R ⟨5, (av : Int), (bv : Int)⟩) := by show (va != vb) = _; rw [← hva, ← hvb]; rfl
          clear hva hvb HCL0 HO HNX hold hold2 hno
          cases va with
          | true =>
            cases vb with
            | true =>
              have HX2 : Hid (false = val1 β R ⟨5, (av : Int), (bv : Int)⟩) := by show false = _; rw [← HX.out]; rfl
              clear HX
              go_wp2_with (at_builtin; refine wpList_append_own _ rfl _ _ 64 rfl W.heap.size 4 i0 _ 1 1 Try.underlying64 hi0 hz0 hz1 hz2 rfl (by decide) _ _ _ rfl (HW.out.alloc _) ⟨w1.heap.size, 0, none⟩ 1 1 [.bool false] rfl rfl (cells_new w1 _ _) (by intro u hu; simp only [List.mem_cons, List.not_mem_nil, or_false] at hu; subst hu; rfl) (by unfold maxLen; omega) (by omega) (by have := HK2.out.size; simp; omega) ?_)
              intro v2 w2 hown2 hgrow _
              have HN3 := Lib.hid (HFIN.out false v2 w2 HX2.out hown2 hgrow)
              clear hown2 hgrow HFIN
              go_wp2_with fail
              go_roundg (n - (j + 1))
              case measure => omega
              case rel => exact ⟨j + 1, _, by omega, rfl, rfl, by go_num, HN3.out.1, HN3.out.2⟩
            | false =>
              have HX2 : Hid (true = val1 β R ⟨5, (av : Int), (bv : Int)⟩) := by show true = _; rw [← HX.out]; rfl
              clear HX
              go_wp2_with (at_builtin; refine wpList_append_own _ rfl _ _ 64 rfl W.heap.size 4 i0 _ 1 1 Try.underlying64 hi0 hz0 hz1 hz2 rfl (by decide) _ _ _ rfl (HW.out.alloc _) ⟨w1.heap.size, 0, none⟩ 1 1 [.bool true] rfl rfl (cells_new w1 _ _) (by intro u hu; simp only [List.mem_cons, List.not_mem_nil, or_false] at hu; subst hu; rfl) (by unfold maxLen; omega) (by omega) (by have := HK2.out.size; simp; omega) ?_)
              intro v2 w2 hown2 hgrow _
              have HN3 := Lib.hid (HFIN.out true v2 w2 HX2.out hown2 hgrow)
              clear hown2 hgrow HFIN
              go_wp2_with fail
              go_roundg (n - (j + 1))
              case measure => omega
              case rel => exact ⟨j + 1, _, by omega, rfl, rfl, by go_num, HN3.out.1, HN3.out.2⟩
          | false =>
            cases vb with
            | true =>
              have HX2 : Hid (true = val1 β R ⟨5, (av : Int), (bv : Int)⟩) := by show true = _; rw [← HX.out]; rfl
              clear HX
              go_wp2_with (at_builtin; refine wpList_append_own _ rfl _ _ 64 rfl W.heap.size 4 i0 _ 1 1 Try.underlying64 hi0 hz0 hz1 hz2 rfl (by decide) _ _ _ rfl (HW.out.alloc _) ⟨w1.heap.size, 0, none⟩ 1 1 [.bool true] rfl rfl (cells_new w1 _ _) (by intro u hu; simp only [List.mem_cons, List.not_mem_nil, or_false] at hu; subst hu; rfl) (by unfold maxLen; omega) (by omega) (by have := HK2.out.size; simp; omega) ?_)
              intro v2 w2 hown2 hgrow _
              have HN3 := Lib.hid (HFIN.out true v2 w2 HX2.out hown2 hgrow)
              clear hown2 hgrow HFIN
              go_wp2_with fail
              go_roundg (n - (j + 1))
              case measure => omega
              case rel => exact ⟨j + 1, _, by omega, rfl, rfl, by go_num, HN3.out.1, HN3.out.2⟩
            | false =>
              have HX2 : Hid (false = val1 β R ⟨5, (av : Int), (bv : Int)⟩) := by show false = _; rw [← HX.out]; rfl
              clear HX
              go_wp2_with (at_builtin; refine wpList_append_own _ rfl _ _ 64 rfl W.heap.size 4 i0 _ 1 1 Try.underlying64 hi0 hz0 hz1 hz2 rfl (by decide) _ _ _ rfl (HW.out.alloc _) ⟨w1.heap.size, 0, none⟩ 1 1 [.bool false] rfl rfl (cells_new w1 _ _) (by intro u hu; simp only [List.mem_cons, List.not_mem_nil, or_false] at hu; subst hu; rfl) (by unfold maxLen; omega) (by omega) (by have := HK2.out.size; simp; omega) ?_)
              intro v2 w2 hown2 hgrow _
              have HN3 := Lib.hid (HFIN.out false v2 w2 HX2.out hown2 hgrow)
              clear hown2 hgrow HFIN
              go_wp2_with fail
              go_roundg (n - (j + 1))
              case measure => omega
              case rel => exact ⟨j + 1, _, by omega, rfl, rfl, by go_num, HN3.out.1, HN3.out.2⟩
      · (try simp only [] at ha hb h67)
        subst ha hb
        rcases h67 with h | h
        · subst h
          have HX : Hid (true = val1 β R ⟨6, 0, 0⟩) := rfl
          clear HCL0 HO HNX
          go_wp2_with (at_builtin; refine wpList_append_own _ rfl _ _ 64 rfl W.heap.size 4 i0 _ 1 1 Try.underlying64 hi0 hz0 hz1 hz2 rfl (by decide) _ _ _ rfl (HW.out.alloc _) ⟨w1.heap.size, 0, none⟩ 1 1 [.bool true] rfl rfl (cells_new w1 _ _) (by intro u hu; simp only [List.mem_cons, List.not_mem_nil, or_false] at hu; subst hu; rfl) (by unfold maxLen; omega) (by omega) (by have := HK2.out.size; simp; omega) ?_)
          intro v2 w2 hown2 hgrow _
          have HN3 := Lib.hid (HFIN.out true v2 w2 HX.out hown2 hgrow)
          clear hown2 hgrow HFIN
          go_wp2_with fail
          go_roundg (n - (j + 1))
          case measure => omega
          case rel => exact ⟨j + 1, _, by omega, rfl, rfl, by go_num, HN3.out.1, HN3.out.2⟩
        · subst h
          have HX : Hid (false = val1 β R ⟨7, 0, 0⟩) := rfl
          clear HCL0 HO HNX
          go_wp2_with (at_builtin; refine wpList_append_own _ rfl _ _ 64 rfl W.heap.size 4 i0 _ 1 1 Try.underlying64 hi0 hz0 hz1 hz2 rfl (by decide) _ _ _ rfl (HW.out.alloc _) ⟨w1.heap.size, 0, none⟩ 1 1 [.bool false] rfl rfl (cells_new w1 _ _) (by intro u hu; simp only [List.mem_cons, List.not_mem_nil, or_false] at hu; subst hu; rfl) (by unfold maxLen; omega) (by omega) (by have := HK2.out.size; simp; omega) ?_)
          intro v2 w2 hown2 hgrow _
          have HN3 := Lib.hid (HFIN.out false v2 w2 HX.out hown2 hgrow)
          clear hown2 hgrow HFIN
          go_wp2_with fail
          go_roundg (n - (j + 1))
          case measure => omega
          case rel => exact ⟨j + 1, _, by omega, rfl, rfl, by go_num, HN3.out.1, HN3.out.2⟩
    · obtain rfl : j = n := by omega
      have hjI : ¬ (j : Int) < (j : Int) := by omega
      obtain ⟨ro, rc, rfl, hle, hmx, hno, hold⟩ := own_form HD.out
      obtain ⟨g, rfl⟩ : ∃ g, ro = some ⟨g, 0, none⟩ := by
        cases ro with
        | none => have := (hno rfl).1; omega
        | some q => exact ⟨q.block, by obtain ⟨q1, q2, _⟩ := hold q rfl; obtain ⟨q3, q4, q5⟩ := q; simp only at q1 q2; subst q1 q2; rfl⟩
      have c := (hold _ rfl).2.2.2.2 (j - 1) _ (boolCells_get _ (show j - 1 < j by omega))
      rw [HRES.out] at c
      have hj1 : ((j : Int) - 1) = ((j - 1 : Nat) : Int) := by omega
      have hw1 : IntKind.i64.wrap ((j : Int) - 1) = ((j - 1 : Nat) : Int) := (IntWalk.i64_in _ (by omega)).trans hj1
      have hlt3 : j - 1 < rc := by omega
      have hm1 : ((j - 1 : Nat) : Int) < (j : Int) := by omega
      obtain ⟨m, hm⟩ : ∃ m, j - 1 = m := ⟨_, rfl⟩
      rw [hm] at c hw1 hlt3 hm1
      clear hj1 HRES hm hold hno HD
      go_wp2_with fail
      go_ret
      exact ⟨rfl, HK.out⟩
end Go.Proofs.Ytipcgjigkipcpaa
