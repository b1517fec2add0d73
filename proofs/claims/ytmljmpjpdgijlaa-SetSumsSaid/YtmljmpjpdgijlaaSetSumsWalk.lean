/-
  The walk of the law SetSums.
-/
import Derived.Test.YtmljmpjpdgijlaaSetLives
import Derived.ChangeKeysEq
set_option linter.unusedVariables false
set_option linter.unusedSimpArgs false
set_option linter.unnecessarySimpa false
namespace Go.Proofs.Ytmljmpjpdgijlaa
open Go.ChangeShapes Go.WideShapes Go.ChangeAt Go.RowKit Go.Deep SetPlain

/-- What has been put. -/
def putB (A : Nat → Int × Int) (i c : Nat) : Nat → Bool
  | 0 => false
  | n + 1 => putB A i c n || decide (A n = ((i : Int), (c : Int)))
def stIn (R C : Nat) (A : Nat → Int × Int) : Nat → Nat → Nat → Bool
  | 0 => fun _ _ => false
  | n + 1 => addIn R C (stIn R C A n) (A n).1 (A n).2
def stTot (R C : Nat) (A : Nat → Int × Int) : Nat → Nat
  | 0 => 0
  | n + 1 => addTot R C (stIn R C A n) (A n).1 (A n).2 (stTot R C A n)
def sumTo (f : Nat → Nat) : Nat → Nat
  | 0 => 0
  | n + 1 => sumTo f n + f n
theorem sumTo_congr {f g : Nat → Nat} : ∀ n, (∀ j, j < n → f j = g j) → sumTo f n = sumTo g n
  | 0, _ => rfl
  | n + 1, h => by unfold sumTo; rw [sumTo_congr n (fun j hj => h j (by omega)), h n (by omega)]
theorem sumTo_up {f g : Nat → Nat} (i : Nat) (h : ∀ j, j ≠ i → f j = g j) (hi : f i = g i + 1) : ∀ n, i < n → sumTo f n = sumTo g n + 1
  | 0, h0 => absurd h0 (Nat.not_lt_zero _)
  | n + 1, hn => by
    unfold sumTo
    rcases Nat.lt_or_ge i n with h1 | h1
    · rw [sumTo_up i h hi n h1, h n (by omega)]; omega
    · obtain rfl : i = n := by omega
      rw [hi, sumTo_congr i (fun j hj => h j (by omega))]; omega
theorem addB_iff {R C : Nat} {In : Nat → Nat → Bool} {i c : Int} : addB R C In i c = true ↔ ∃ a m : Nat, i = a ∧ c = m ∧ a < R ∧ m < C ∧ In a m = false := by
  unfold addB hasB rowP
  constructor
  · intro h
    simp only [Bool.and_eq_true, decide_eq_true_eq, Bool.not_eq_true'] at h
    obtain ⟨⟨h1, h2, h3, h4⟩, h5⟩ := h
    refine ⟨i.toNat, c.toNat, by omega, by omega, by omega, by omega, ?_⟩
    rw [if_pos ⟨h1, h2⟩] at h5
    simpa [h3, h4] using h5
  · rintro ⟨a, m, rfl, rfl, h1, h2, h3⟩
    have e1 : (0 : Int) ≤ (a : Int) ∧ (a : Int) < (R : Int) := by omega
    rw [if_pos e1]
    have e2 : decide (0 ≤ (a : Int) ∧ (a : Int) < (R : Int) ∧ 0 ≤ (m : Int) ∧ (m : Int) < (C : Int)) = true := by simp; omega
    rw [e2]
    show (true && !(decide _ && In a m)) = true
    rw [h3]; simp
theorem addIn_get {R C : Nat} {In : Nat → Nat → Bool} {i c : Int} {a m : Nat} (ha : a < R) (hm : m < C) : addIn R C In i c a m = (In a m || decide ((i, c) = ((a : Int), (m : Int)))) := by
  unfold addIn
  cases h : addB R C In i c with
  | true =>
    obtain ⟨x, y, rfl, rfl, h1, h2, h3⟩ := addB_iff.1 h
    rw [if_pos rfl]
    show updIn In x y a m = _
    unfold updIn
    by_cases hax : a = x
    · subst hax
      rw [if_pos rfl]
      unfold upd
      by_cases hmy : m = y
      · subst hmy; simp
      · have : ¬ ((y : Int) = (m : Int)) := by omega
        simp [hmy, this]
    · rw [if_neg hax]
      have : ¬ ((x : Int) = (a : Int)) := by omega
      simp [this]
  | false =>
    rw [if_neg (by simp)]
    by_cases he : (i, c) = ((a : Int), (m : Int))
    · have h1 : In a m = true := by
        cases hin : In a m with
        | true => rfl
        | false =>
          simp only [Prod.mk.injEq] at he
          rw [addB_iff.2 ⟨a, m, he.1, he.2, ha, hm, hin⟩] at h; cases h
      rw [h1]; rfl
    · simp [he]
theorem stIn_get {R C : Nat} {A : Nat → Int × Int} {a m : Nat} (ha : a < R) (hm : m < C) : ∀ n, stIn R C A n a m = putB A a m n
  | 0 => rfl
  | n + 1 => by
    show addIn R C (stIn R C A n) (A n).1 (A n).2 a m = (putB A a m n || decide (A n = ((a : Int), (m : Int))))
    rw [addIn_get ha hm, stIn_get ha hm n]
theorem addTot_sum {R C : Nat} {In : Nat → Nat → Bool} {i c : Int} {tot : Nat} (ht : tot = sumTo (fun a => cnt (In a) C) R) : addTot R C In i c tot = sumTo (fun a => cnt (addIn R C In i c a) C) R := by
  unfold addTot addIn
  cases h : addB R C In i c with
  | true =>
    obtain ⟨x, y, rfl, rfl, h1, h2, h3⟩ := addB_iff.1 h
    rw [if_pos rfl, if_pos rfl, ht]
    symm
    refine sumTo_up x (fun j hj => ?_) ?_ R h1
    · show cnt (updIn In x y j) C = _
      unfold updIn; rw [if_neg hj]
    · show cnt (updIn In x y x) C = _
      unfold updIn; rw [if_pos rfl]
      exact cnt_upd h2 h3
  | false => rw [if_neg (by simp), if_neg (by simp), ht]
where
  cnt_upd {p : Nat → Bool} {y C : Nat} (h2 : y < C) (h3 : p y = false) : cnt (upd p y) C = cnt p C + 1 := by
    induction C with
    | zero => exact absurd h2 (Nat.not_lt_zero _)
    | succ C ih =>
      unfold cnt
      rcases Nat.lt_or_ge y C with h | h
      · rw [ih h]
        have : upd p y C = p C := by unfold upd; have : ¬ C = y := by omega
                                     simp [this]
        rw [this]; omega
      · obtain rfl : y = C := by omega
        have e1 : cnt (upd p y) y = cnt p y := cnt_congr _ fun j hj => by unfold upd; have : ¬ j = y := by omega
                                                                          simp [this]
        have e2 : upd p y y = true := by unfold upd; simp
        rw [e1, e2, h3]; simp
theorem stTot_sum {R C : Nat} {A : Nat → Int × Int} : ∀ n, stTot R C A n = sumTo (fun a => cnt (stIn R C A n a) C) R
  | 0 => by
    have : ∀ R, sumTo (fun a => cnt (fun _ => false) C) R = 0 := fun R => by
      induction R with
      | zero => rfl
      | succ R ih => unfold sumTo; rw [ih, cnt_none _ _ (fun _ _ => rfl)]
    exact (this R).symm
  | n + 1 => addTot_sum (stTot_sum n)
theorem sumTo_le {f : Nat → Nat} {c : Nat} (h : ∀ a, f a ≤ c) : ∀ n, sumTo f n ≤ c * n
  | 0 => Nat.zero_le _
  | n + 1 => by have := sumTo_le h n; have := h n; unfold sumTo; rw [Nat.mul_add]; omega
theorem stTot_le {R C : Nat} {A : Nat → Int × Int} : ∀ n, stTot R C A n ≤ n
  | 0 => Nat.le_refl _
  | n + 1 => by
    have := stTot_le (R := R) (C := C) (A := A) n
    show addTot R C _ _ _ _ ≤ n + 1
    unfold addTot
    split <;> omega
theorem allIn_self (p : Nat → Bool) (n : Nat) : allIn p p n = true := (allIn_iff p p n).2 fun _ _ h => h
theorem anyIn_self (p : Nat → Bool) (n : Nat) : anyIn p p n = decide (0 < cnt p n) := by
  rw [Bool.eq_iff_iff, anyIn_iff]
  simp only [decide_eq_true_eq]
  constructor
  · rintro ⟨j, hj, hp, _⟩
    rcases Nat.eq_zero_or_pos (cnt p n) with h | h
    · rw [cnt_zero n h j hj] at hp; cases hp
    · exact h
  · intro h
    apply Classical.byContradiction
    intro hno
    rw [cnt_none p n (fun j hj => by
      cases hp : p j with
      | false => rfl
      | true => exact absurd ⟨j, hj, hp, hp⟩ hno)] at h
    omega
theorem rowP_nat {R : Nat} {In : Nat → Nat → Bool} {i : Nat} (h : i < R) : rowP R In (i : Int) = In i := by
  unfold rowP; rw [if_pos (by omega)]; rfl
theorem hasB_nat {R C : Nat} {In : Nat → Nat → Bool} {i c : Nat} (h : i < R) (hc : c < C) : hasB R C In (i : Int) (c : Int) = In i c := by
  unfold hasB
  rw [rowP_nat h, show decide (0 ≤ (c : Int) ∧ (c : Int) < (C : Int)) = true from by simp; omega]
  rfl

theorem IsRow.pairs {w : World} {ao : Option Addr} {n cap : Nat} {G : Nat → Nat → Value} (R : IsRow w [.int .i64, .int .i64] ao n cap G) :
    ∃ A : Nat → Int × Int, (∀ i, i < n → (-9223372036854775808 ≤ (A i).1 ∧ (A i).1 ≤ 9223372036854775807) ∧ (-9223372036854775808 ≤ (A i).2 ∧ (A i).2 ≤ 9223372036854775807)) ∧ (0 < n → ∃ b off, ao = some ⟨b, off, none⟩ ∧ b < w.heap.size ∧ ∀ i, i < n → w.cell? ⟨b, off + i * 2, none⟩ = some (.int .i64 (A i).1) ∧
      w.cell? ⟨b, off + i * 2 + 1, none⟩ = some (.int .i64 (A i).2)) := by
  have key : ∀ i, i < n → ∃ p : Int × Int, G i 0 = .int .i64 p.1 ∧ G i 1 = .int .i64 p.2 ∧ (-9223372036854775808 ≤ p.1 ∧ p.1 ≤ 9223372036854775807) ∧ (-9223372036854775808 ≤ p.2 ∧ p.2 ≤ 9223372036854775807) := fun i hi => by
    obtain ⟨z0, h0, w0⟩ := R.ok i 0 _ hi rfl
    obtain ⟨z1, h1, w1⟩ := R.ok i 1 _ hi rfl
    exact ⟨(z0, z1), h0, h1, bounds_i64 w0, bounds_i64 w1⟩
  obtain ⟨f, hf⟩ := choose_lt key
  refine ⟨f, fun i hi => (hf i hi).2.2, fun h0 => ?_⟩
  obtain ⟨b, off, h1, h2, h3⟩ := R.at_ h0
  refine ⟨b, off, h1, h2, fun i hi => ?_⟩
  obtain ⟨g0, g1, _⟩ := hf i hi
  rw [← g0, ← g1]
  exact ⟨h3 i 0 hi (by decide), h3 i 1 hi (by decide)⟩

theorem sIntInfo : (Try.prog.info? 3).map (fun i => (i.zero, i.size, i.bytes)) = some (some (.int .i64 0), 1, 8) := by kernel_rfl
theorem sIntCells : (Try.prog.cellsOf 3) = 1 := by kernel_rfl
set_option maxRecDepth 10000 in
set_option maxHeartbeats 800000 in
theorem arr2_eqIn (a0 a1 k0 k1 : Int) (w : World) :
    (Op.equalIn 10000 49 (.agg #[.int .i64 a0, .int .i64 a1]) (.agg #[.int .i64 k0, .int .i64 k1])).run Try.prog w = .ok (decide ((a0, a1) = (k0, k1))) w := by
  obtain ⟨i0, hi, _, _, _⟩ := info_parts sIntInfo
  rw [run_equalIn_array w 9999 _ _ Try.underlying49 hi, sIntCells]
  by_cases h0 : a0 = k0
  · subst h0
    by_cases h1 : a1 = k1
    · subst h1
      simp [Op.eqItems, List.range, List.range.loop, go_sem]
    · have h3' : (a1 == k1) = false := by simpa using h1
      simp [Op.eqItems, List.range, List.range.loop, go_sem, h3', h1]
  · have h3' : (a0 == k0) = false := by simpa using h0
    simp [Op.eqItems, List.range, List.range.loop, go_sem, h3', h0]
theorem arr2_eql (a0 a1 k0 k1 : Int) (w : World) :
    (binOp .eql 49 (.agg #[.int .i64 a0, .int .i64 a1]) (.agg #[.int .i64 k0, .int .i64 k1])).run Try.prog w = .ok (.bool (decide ((a0, a1) = (k0, k1)))) w := by
  rw [run_eql_struct, arr2_eqIn]; rfl

set_option maxRecDepth 100000 in
set_option maxHeartbeats 3200000 in
theorem setSums_core (w : World) (rows : Int) (hr0 : -9223372036854775808 ≤ rows) (hr1 : rows ≤ 9223372036854775807) (cols : Int) (hc0 : -9223372036854775808 ≤ cols) (hc1 : cols ≤ 9223372036854775807) (ao : Option Addr) (n cap : Nat) (G : Nat → Nat → Value) (Rw : IsRow w [.int .i64, .int .i64] ao n cap G) :
    Calls Try.prog 6 #[.int .i64 rows, .int .i64 cols, .slice ao n cap] w fun e w' => e = .returned (.bool true) ∧ Below w.heap.size w w' := by
  have hcap := Rw.le
  have hmax := Rw.max
  unfold maxLen at hmax
  obtain ⟨A, hZ, hA⟩ := Rw.pairs
  have HZ := Lib.hid hZ; have HA := Lib.hid hA
  clear Rw hZ hA
  go_enter Try.func6, Try.ntmps6
  go_upto_region 1 with fail
  go_cut [2] (fun s wx => ∃ m : Nat, s = .slice ao m cap ∧ m ≤ n ∧ m ≤ 60 ∧ w = wx)
  case first =>
    go_wp2
    all_goals (go_meet; first | exact ⟨n, rfl, by omega, by omega, rfl⟩ | exact ⟨60, rfl, by omega, by omega, rfl⟩)
  case rest =>
    obtain ⟨m, rfl, hmn, hm60, rfl⟩ := hcut
    clear hcap
    by_cases hbig : 8 < rows ∨ 100 < cols
    · rcases hbig with hb | hb
      · go_wp2_with fail
        refine (setLives_any _).mono ?_
        rintro e w1 ⟨rfl, hb⟩
        go_wp2
        go_ret
        exact ⟨rfl, hb⟩
      · by_cases h8 : 8 < rows
        · go_wp2_with fail
          refine (setLives_any _).mono ?_
          rintro e w1 ⟨rfl, hb⟩
          go_wp2
          go_ret
          exact ⟨rfl, hb⟩
        · go_wp2_with fail
          refine (setLives_any _).mono ?_
          rintro e w1 ⟨rfl, hb⟩
          go_wp2
          go_ret
          exact ⟨rfl, hb⟩
    · have hr8 : rows ≤ 8 := by omega
      have hc100 : cols ≤ 100 := by omega
      clear hbig
      obtain ⟨R, hR⟩ := within_cases rows 5000
      obtain ⟨C, hC⟩ := within_cases cols 1000
      have HR : Hid ((rows < 0 ∧ R = 0) ∨ (R : Int) = rows) := by
        show (rows < 0 ∧ R = 0) ∨ (R : Int) = rows
        unfold Within at hR; omega
      have HC : Hid ((cols < 0 ∧ C = 0) ∨ (C : Int) = cols) := by
        show (cols < 0 ∧ C = 0) ∨ (C : Int) = cols
        unfold Within at hC; omega
      have hR8 : R ≤ 8 := by unfold Within at hR; omega
      have hC100 : C ≤ 100 := by unfold Within at hC; omega
      have HN := Lib.hid (newFam rows cols R C hR hC w)
      clear hR hC hr0 hr1 hc0 hc1
      go_wp2_with fail
      refine HN.out.mono ?_
      rintro e w1 ⟨rfl, t1⟩
      have T1 : Hid (LiveFam w.heap.size w w.heap.size R C (stIn R C A 0) (stTot R C A 0) w1) := t1
      clear t1 HN
      go_wp2_with fail
      go_loopg [33] m (fun g s wr => ∃ k : Nat, k ≤ m ∧ g = m - k ∧ s = .int .i64 k ∧ Hid (LiveFam w.heap.size w w.heap.size R C (stIn R C A k) (stTot R C A k) wr))
      case atStart => exact ⟨0, Nat.zero_le _, rfl, rfl, T1.out⟩
      case round =>
        clear T1
        obtain ⟨k, hk, rfl, rfl, ht⟩ := hrel
        by_cases hlt : k < m
        · obtain ⟨bl, off, rfl, hbl, hcells⟩ := HA.out (by omega)
          obtain ⟨r0, r1⟩ := hcells k (by omega)
          obtain ⟨z0, z1⟩ := HZ.out k (by omega)
          have hbb := ht.out.base
          rw [← hbb.cell (p := ⟨bl, _, none⟩) hbl] at r0 r1
          have HT := Lib.hid (ht.out.keeps (Nat.le_refl _) ((Keeps.refl (fun _ => False) wr).alloc (.cells #[.int .i64 (A k).1, .int .i64 (A k).2] 49)))
          have htl := stTot_le (R := R) (C := C) (A := A) k
          have Hadd : Hid (Calls Try.prog 24 #[.pointer (some ⟨w.heap.size, 0, none⟩), .int .i64 (A k).1, .int .i64 (A k).2] (wr.alloc (.cells #[.int .i64 (A k).1, .int .i64 (A k).2] 49)) fun e w2 => (∃ x, e = .returned (.bool x)) ∧ LiveFam w.heap.size w w.heap.size R C (stIn R C A (k + 1)) (stTot R C A (k + 1)) w2) :=
            (HT.out.add (Nat.le_refl _) (by omega) (A k).1 (A k).2 z1.1 z1.2).mono fun e w2 hh => ⟨⟨_, hh.1⟩, hh.2.1⟩
          generalize (A k).1 = p0 at r0 Hadd
          generalize (A k).2 = p1 at r1 Hadd
          clear hcells hbb ht HT z0 z1
          go_wp2_with fail
          refine Hadd.out.mono ?_
          rintro e w2 ⟨⟨x, rfl⟩, t2⟩
          have T2 := Lib.hid t2
          clear t2 Hadd r0 r1
          go_wp2_with fail
          go_roundg (m - (k + 1))
          case measure => omega
          case rel => exact ⟨k + 1, by omega, rfl, by go_num, T2.out⟩
        · obtain rfl : k = m := by omega
          clear hlt hk
          go_upto_region 10 with fail
          have hIn : Hid (∀ a c, a < R → c < C → stIn R C A k a c = putB A a c k) := fun a c ha hc => stIn_get ha hc k
          have hTot : Hid (stTot R C A k = sumTo (fun a => cnt (stIn R C A k a) C) R) := stTot_sum k
          have htl := stTot_le (R := R) (C := C) (A := A) k
          generalize stIn R C A k = In at ht hIn hTot
          generalize stTot R C A k = tot at ht hTot htl
          go_upto_region 11 with fail
          go_cut [45, 46] (fun a b wx => a = .int .i64 R ∧ b = .int .i64 0 ∧ wr = wx)
          case first =>
            rcases HR.out with ⟨h1, rfl⟩ | h1
            · go_wp2
              all_goals (go_meet; exact ⟨rfl, rfl, rfl⟩)
            · subst h1
              go_wp2
              all_goals (go_meet; exact ⟨rfl, rfl, rfl⟩)
          case rest =>
            obtain ⟨rfl, rfl, rfl⟩ := hcut
            clear HR
            go_wp2_with fail
            go_loopg [10, 46] R (fun g s10 s46 wr2 => ∃ i N : Nat, i ≤ R ∧ g = R - i ∧ s10 = .int .i64 N ∧ s46 = .int .i64 i ∧ Hid (N = sumTo (fun a => cnt (In a) C) i) ∧ Hid (LiveFam w.heap.size w w.heap.size R C In tot wr2))
            case atStart => exact ⟨0, 0, Nat.zero_le _, rfl, rfl, rfl, rfl, ht.out⟩
            case round =>
              clear ht
              obtain ⟨i, N, hi, rfl, rfl, rfl, hN, ht⟩ := hrel
              have hN800 : N ≤ 800 := by
                have h1 := sumTo_le (f := fun a => cnt (In a) C) (c := 100) (fun a => Nat.le_trans (cnt_le _ _) hC100) i
                rw [hN.out]; omega
              by_cases hlr : i < R
              · have hd := cnt_le (In i) C
                have HL : Hid (∀ W, LiveFam w.heap.size w w.heap.size R C In tot W → Calls Try.prog 25 #[.pointer (some ⟨w.heap.size, 0, none⟩), .int .i64 i] W fun e w2 => e = .returned (.int .i64 (cnt (In i) C : Nat)) ∧ W = w2) := fun W h => by
                  have := h.len (i : Int)
                  rw [rowP_nat hlr] at this
                  exact this
                have HM : Hid (∀ W, LiveFam w.heap.size w w.heap.size R C In tot W → Calls Try.prog 28 #[.pointer (some ⟨w.heap.size, 0, none⟩), .int .i64 i, .int .i64 i] W fun e w2 => e = .returned (.bool (decide (0 < cnt (In i) C))) ∧ W = w2) := fun W h => by
                  have := h.meets (i : Int) (i : Int)
                  rw [rowP_nat hlr, anyIn_self] at this
                  exact this
                have HI : Hid (∀ W, LiveFam w.heap.size w w.heap.size R C In tot W → Calls Try.prog 27 #[.pointer (some ⟨w.heap.size, 0, none⟩), .int .i64 i, .int .i64 i] W fun e w2 => e = .returned (.bool true) ∧ W = w2) := fun W h => by
                  have := h.inside (i : Int) (i : Int)
                  rw [rowP_nat hlr, allIn_self] at this
                  exact this
                have hstep : Hid (N + cnt (In i) C = sumTo (fun a => cnt (In a) C) (i + 1)) := by
                  show N + cnt (In i) C = sumTo _ i + cnt (In i) C
                  rw [hN.out]
                generalize cnt (In i) C = d at HL HM hd hstep
                have hiI : (i : Int) < (R : Int) := by omega
                go_wp2_with fail
                refine (HL.out _ ht.out).mono ?_
                rintro e w2 ⟨rfl, rfl⟩
                go_upto_region 15 with fail
                go_cut [55, 56] (fun a b wx => a = .int .i64 C ∧ b = .int .i64 0 ∧ wr = wx)
                case first =>
                  rcases HC.out with ⟨h1, rfl⟩ | h1
                  · go_wp2
                    all_goals (go_meet; exact ⟨rfl, rfl, rfl⟩)
                  · subst h1
                    go_wp2
                    all_goals (go_meet; exact ⟨rfl, rfl, rfl⟩)
                case rest =>
                  obtain ⟨rfl, rfl, rfl⟩ := hcut
                  go_wp2_with fail
                  go_loopg [56] C (fun g s56 wr3 => ∃ c : Nat, c ≤ C ∧ g = C - c ∧ s56 = .int .i64 c ∧ Hid (LiveFam w.heap.size w w.heap.size R C In tot wr3))
                  case atStart => exact ⟨0, Nat.zero_le _, rfl, rfl, ht.out⟩
                  case round =>
                    clear ht
                    obtain ⟨c, hc, rfl, rfl, ht⟩ := hrel
                    by_cases hlc : c < C
                    · have hcI : (c : Int) < (C : Int) := by omega
                      have hin := Lib.hid (hIn.out i c hlr hlc)
                      have HH : Hid (∀ W, LiveFam w.heap.size w w.heap.size R C In tot W → Calls Try.prog 26 #[.pointer (some ⟨w.heap.size, 0, none⟩), .int .i64 i, .int .i64 c] W fun e w2 => e = .returned (.bool (putB A i c k)) ∧ W = w2) := fun W h => by
                        have := h.has (i : Int) (c : Int) (by omega) (by omega)
                        rw [hasB_nat hlr hlc, hin.out] at this
                        exact this
                      go_wp2_with fail
                      go_loopg [13, 61] k (fun g s13 s61 wr4 => ∃ j : Nat, j ≤ k ∧ g = k - j ∧ s13 = .bool (putB A i c j) ∧ s61 = .int .i64 j ∧ Hid (LiveFam w.heap.size w w.heap.size R C In tot wr4))
                      case atStart => exact ⟨0, Nat.zero_le _, rfl, rfl, rfl, ht.out⟩
                      case round =>
                        clear ht
                        obtain ⟨j, hj, rfl, rfl, rfl, ht⟩ := hrel
                        by_cases hlj : j < k
                        · obtain ⟨bl, off, rfl, hbl, hcells⟩ := HA.out (by omega)
                          obtain ⟨r0, r1⟩ := hcells j (by omega)
                          have hbb := ht.out.base
                          rw [← hbb.cell (p := ⟨bl, _, none⟩) hbl] at r0 r1
                          have HT := Lib.hid (ht.out.keeps (Nat.le_refl _) ((Keeps.refl (fun _ => False) wr).alloc (.cells #[.int .i64 (A j).1, .int .i64 (A j).2] 49)))
                          have hput : putB A i c (j + 1) = (putB A i c j || decide (((A j).1, (A j).2) = ((i : Int), (c : Int)))) := rfl
                          generalize (A j).1 = p0 at r0 HT hput
                          generalize (A j).2 = p1 at r1 HT hput
                          have heq := fun W => arr2_eql p0 p1 (i : Int) (c : Int) W
                          generalize decide ((p0, p1) = ((i : Int), (c : Int))) = de at heq hput
                          have HP := Lib.hid hput
                          clear hcells hbb ht hput
                          cases hpj : putB A i c j with
                          | true =>
                            have HP2 : Hid (putB A i c (j + 1) = true) := by show _ = _; rw [HP.out, hpj]; rfl
                            clear hpj HP
                            go_wp2_with fail
                            go_roundg (k - (j + 1))
                            case measure => omega
                            case rel => exact ⟨j + 1, by omega, rfl, by rw [HP2.out], by go_num, HT.out⟩
                          | false =>
                            have HP2 : Hid (putB A i c (j + 1) = de) := by show _ = _; rw [HP.out, hpj]; rfl
                            clear hpj HP
                            go_wp2_with fail
                            go_roundg (k - (j + 1))
                            case measure => omega
                            case rel => exact ⟨j + 1, by omega, rfl, by rw [HP2.out], by go_num, HT.out⟩
                        · obtain rfl : j = k := by omega
                          generalize putB A i c j = pv at HH ⊢
                          go_wp2_with fail
                          refine (HH.out _ ht.out).mono ?_
                          rintro e w2 ⟨rfl, rfl⟩
                          go_wp2_with fail
                          go_roundg (C - (c + 1))
                          case measure => omega
                          case rel => exact ⟨c + 1, by omega, rfl, by go_num, ht.out⟩
                    · obtain rfl : c = C := by omega
                      go_wp2_with fail
                      refine (HI.out _ ht.out).mono ?_
                      rintro e w2 ⟨rfl, rfl⟩
                      go_wp2_with fail
                      refine (HM.out _ ht.out).mono ?_
                      rintro e w2 ⟨rfl, rfl⟩
                      go_wp2_with fail
                      refine (HL.out _ ht.out).mono ?_
                      rintro e w2 ⟨rfl, rfl⟩
                      go_wp2_with fail
                      go_roundg (R - (i + 1))
                      case measure => omega
                      case rel => exact ⟨i + 1, N + d, by omega, rfl, by go_num, by go_num, hstep.out, ht.out⟩
              · obtain rfl : i = R := by omega
                have hNt : N = tot := by rw [hN.out, hTot.out]
                subst hNt
                clear hN hTot
                go_wp2_with fail
                refine ht.out.total.mono ?_
                rintro e w2 ⟨rfl, rfl⟩
                go_wp2_with fail
                refine (setLives_any _).mono ?_
                rintro e w3 ⟨rfl, hb⟩
                go_wp2
                go_ret
                exact ⟨rfl, ht.out.base.trans (hb.mono (ht.out.size (Nat.le_refl _)))⟩
end Go.Proofs.Ytmljmpjpdgijlaa
