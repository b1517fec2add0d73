/-
  Is what is told of a variable right, of a row: the law's walk.
-/
import Derived.Test.YtfakjhcpaiaekaaSatPathPlain
import Derived.Test.YtfakjhcpaiaekaaSatBits
import Derived.BigQuiet
set_option linter.unusedVariables false
set_option linter.unusedSimpArgs false
set_option linter.unnecessarySimpa false
namespace Go.Proofs.Ytfakjhcpaiaekaa
open Go.ChangeShapes Go.WideShapes Go.ChangeAt Go.RowKit Go.Deep NodePlain SatPlain
/-- What the first loop gathers. -/
def loA (R : Nat → Bool) (v i : Nat) : Bool := (List.range i).any fun j => !Nat.testBit j v && R j
def hiA (R : Nat → Bool) (v i : Nat) : Bool := (List.range i).any fun j => !Nat.testBit j v && R (j ||| 2 ^ v)
def smA (R : Nat → Bool) (v i : Nat) : Bool := (List.range i).all fun j => Nat.testBit j v || (R j == R (j ||| 2 ^ v))
theorem loA_succ (R : Nat → Bool) (v i : Nat) : loA R v (i + 1) = (loA R v i || (!Nat.testBit i v && R i)) := by
  unfold loA; rw [List.range_succ, List.any_append]; simp
theorem hiA_succ (R : Nat → Bool) (v i : Nat) : hiA R v (i + 1) = (hiA R v i || (!Nat.testBit i v && R (i ||| 2 ^ v))) := by
  unfold hiA; rw [List.range_succ, List.any_append]; simp
theorem smA_succ (R : Nat → Bool) (v i : Nat) : smA R v (i + 1) = (smA R v i && (Nat.testBit i v || (R i == R (i ||| 2 ^ v)))) := by
  unfold smA; rw [List.range_succ, List.all_append]; simp
set_option maxRecDepth 100000
set_option maxHeartbeats 3200000
theorem shr_fin : ∀ i : Fin 64, ∀ v : Fin 6, (bits BinOp.and IntKind.i64 (((i.val : Nat) : Int) / (2 : Int) ^ v.val) 1 == 0) = !Nat.testBit i.val v.val := by decide +kernel
theorem or_fin : ∀ i : Fin 64, ∀ v : Fin 6, bits BinOp.or IntKind.i64 ((i.val : Nat) : Int) (IntKind.i64.wrap ((2 : Int) ^ v.val)) = ((i.val ||| 2 ^ v.val : Nat) : Int) ∧ IntKind.i64.wrap ((2 : Int) ^ v.val) = (2 : Int) ^ v.val := by decide +kernel
theorem clr_fin : ∀ i : Fin 64, ∀ v : Fin 6, bits BinOp.or IntKind.i64 (bits BinOp.andNot IntKind.i64 ((i.val : Nat) : Int) (wrap64 ((2 : Int) ^ v.val))) 0 = ((putN i.val v.val false : Nat) : Int) := by decide +kernel
theorem set_fin : ∀ i : Fin 64, ∀ v : Fin 6, bits BinOp.or IntKind.i64 (bits BinOp.andNot IntKind.i64 ((i.val : Nat) : Int) (wrap64 ((2 : Int) ^ v.val))) (wrap64 ((2 : Int) ^ v.val)) = ((putN i.val v.val true : Nat) : Int) := by decide +kernel
theorem putN_twice (b v : Nat) (so : Bool) : putN (putN b v so) v so = putN b v so := by
  apply Nat.eq_of_testBit_eq
  intro x
  rw [putN_bit, putN_bit, setB_twice]
theorem choice_law {S : (Nat → Bool) → Bool} {R : Nat → Bool} {k v : Nat} {so : Int} (hv : v < k) (hs : ∀ b, b < 2 ^ k → S (Nat.testBit b) = R b) (h : Choice k S v so) :
    smA R v (2 ^ k) = decide (so = -1) ∧ (so ≠ -1 → loA R v (2 ^ k) = decide (so = 0)) ∧ (loA R v (2 ^ k) || hiA R v (2 ^ k)) = true := by
  have hput : ∀ j, j < 2 ^ k → putN j v false < 2 ^ k ∧ putN j v true < 2 ^ k := fun j hj => ⟨putN_lt hj hv _, putN_lt hj hv _⟩
  have hlow : ∀ j, Nat.testBit j v = false → putN j v false = j ∧ putN j v true = j ||| 2 ^ v := fun j hj => by
    refine ⟨?_, by unfold putN; rw [if_pos rfl]⟩
    apply Nat.eq_of_testBit_eq
    intro x
    rw [putN_bit]
    unfold setB
    by_cases e : x = v
    · rw [if_pos e, e, hj]
    · rw [if_neg e]
  have hpl : ∀ b, Nat.testBit (putN b v false) v = false := fun b => by rw [putN_bit, setB_same]
  have hpt : ∀ b, putN (putN b v false) v true = putN b v true := fun b => by
    apply Nat.eq_of_testBit_eq
    intro x
    rw [putN_bit, putN_bit, putN_bit, setB_twice]
  have hpf : ∀ b, putN (putN b v false) v false = putN b v false := fun b => (hlow _ (hpl b)).1
  refine ⟨?_, fun hn => ?_, ?_⟩
  · have : smA R v (2 ^ k) = true ↔ so = -1 := by
      rw [← h.same]
      unfold smA
      rw [List.all_eq_true]
      constructor
      · intro ha b hb
        have h1 := ha (putN b v false) (List.mem_range.2 (hput b hb).1)
        rw [hpl, Bool.false_or, beq_iff_eq, ← (hlow _ (hpl b)).2, hpt] at h1
        rw [hs _ (hput b hb).1, hs _ (hput b hb).2]
        exact h1
      · intro ha j hj
        have hj' := List.mem_range.1 hj
        cases hb : Nat.testBit j v with
        | true => rfl
        | false =>
          have h1 := ha j hj'
          rw [hs _ (hput j hj').1, hs _ (hput j hj').2, (hlow j hb).1, (hlow j hb).2] at h1
          rw [Bool.false_or, beq_iff_eq]
          exact h1
    by_cases e : so = -1
    · rw [decide_eq_true e]; exact this.2 e
    · rw [decide_eq_false e, Bool.eq_false_iff]; exact fun h => e (this.1 h)
  · have : loA R v (2 ^ k) = true ↔ so = 0 := by
      rw [← h.low hn]
      unfold loA
      rw [List.any_eq_true]
      constructor
      · rintro ⟨j, hj, e⟩
        have hj' := List.mem_range.1 hj
        rw [Bool.and_eq_true, Bool.not_eq_true'] at e
        refine ⟨j, hj', ?_⟩
        rw [hs _ (hput j hj').1, (hlow j e.1).1]
        exact e.2
      · rintro ⟨b, hb, e⟩
        refine ⟨putN b v false, List.mem_range.2 (hput b hb).1, ?_⟩
        rw [hpl, Bool.not_false, Bool.true_and, ← hs _ (hput b hb).1]
        exact e
    by_cases e : so = 0
    · rw [decide_eq_true e]; exact this.2 e
    · rw [decide_eq_false e, Bool.eq_false_iff]; exact fun h => e (this.1 h)
  · obtain ⟨b, hb, e⟩ := h.some
    rw [Bool.or_eq_true]
    cases hbv : Nat.testBit b v with
    | false =>
      refine .inl ?_
      unfold loA
      rw [List.any_eq_true]
      exact ⟨b, List.mem_range.2 hb, by rw [hbv, ← hs b hb, e]; rfl⟩
    | true =>
      refine .inr ?_
      unfold hiA
      rw [List.any_eq_true]
      refine ⟨putN b v false, List.mem_range.2 (hput b hb).1, ?_⟩
      have h2 : putN b v false ||| 2 ^ v = b := by
        rw [← (hlow _ (hpl b)).2, hpt]
        apply Nat.eq_of_testBit_eq
        intro x
        rw [putN_bit]
        unfold setB
        by_cases e : x = v
        · rw [if_pos e, e, hbv]
        · rw [if_neg e]
      rw [hpl, h2, ← hs b hb, e]
      rfl
/-- A row of bools at a block that may have more places. -/
def RowX (W : World) (b m : Nat) (R : Nat → Bool) : Prop := ∃ cur : Array Value, W.heap[b]? = some (.cells cur 4 (0, 0)) ∧ ∀ j, j < m → cur[j]? = some (.bool (R j))
section
variable {W W' : World} {b m : Nat} {R S : Nat → Bool}
theorem RowX.cell (h : RowX W b m R) {j : Nat} (hj : j < m) : W.cell? ⟨b, j, none⟩ = some (.bool (R j)) := by
  obtain ⟨cur, h1, h2⟩ := h
  rw [cell_of_heap h1]; exact h2 j hj
theorem RowX.lt (h : RowX W b m R) : b < W.heap.size := by
  obtain ⟨cur, h1, h2⟩ := h
  exact lt_of_heap h1
theorem RowX.free (h : RowX W b m R) (j : Nat) : W.frozen? ⟨b, j, none⟩ = false := by
  obtain ⟨cur, h1, h2⟩ := h
  exact free_of_heap h1 j
theorem RowX.keeps (h : RowX W b m R) {S : Nat → Prop} (hk : Keeps S W W') (hs : ¬ S b) : RowX W' b m R := by
  obtain ⟨cur, h1, h2⟩ := h
  exact ⟨cur, (hk.block b (lt_of_heap h1) hs).trans h1, h2⟩
theorem RowX.congr (h : RowX W b m R) (he : ∀ j, j < m → R j = S j) : RowX W b m S := by
  obtain ⟨cur, h1, h2⟩ := h
  exact ⟨cur, h1, fun j hj => by rw [h2 j hj, he j hj]⟩
theorem RowX.set (h : RowX W b m R) {j : Nat} (hj : j < m) (x : Bool) : RowX (W.setCell ⟨b, j, none⟩ (.bool x)) b m (fun i => if i = j then x else R i) := by
  obtain ⟨cur, h1, h2⟩ := h
  refine ⟨cur.setIfInBounds j (.bool x), by rw [heap_set h1], fun i hi => ?_⟩
  have hl : j < cur.size := by
    have := h2 j hj
    rcases Nat.lt_or_ge j cur.size with h | h
    · exact h
    · rw [Array.getElem?_eq_none h] at this; cases this
  by_cases e : i = j
  · subst e
    rw [Array.getElem?_setIfInBounds_self_of_lt hl]
    simp
  · rw [Array.getElem?_setIfInBounds_ne (by omega), h2 i hi]
    simp [e]
theorem RowX.drewN (h : RowX W b m R) (n : Nat) : RowX (W.drewN n) b m R := by
  obtain ⟨cur, h1, h2⟩ := h
  exact ⟨cur, h1, h2⟩
end
/-- The row, so many of its places turned. -/
def midR (R : Nat → Bool) (v : Nat) (so : Int) (t : Nat) : Nat → Bool := fun j => if j < t then (if so = -1 then R j else R (putN j v (decide (so = 1)))) else R j
theorem mid_turn {R : Nat → Bool} {v t : Nat} {so : Int} (hn : so ≠ -1) : midR R v so t (putN t v (decide (so = 1))) = R (putN t v (decide (so = 1))) := by
  unfold midR
  split
  · first | rw [if_neg hn, putN_twice] | rw [putN_twice]
  · rfl
theorem choice_spec {W : World} {b m cap k v : Nat} {R : Nat → Bool} (h : RowX W b m R) (hcm : m ≤ cap) (hk : k ≤ 6) (hm : 2 ^ k = m) (hv : v < k) {so : Int} (hso : so = -1 ∨ so = 0 ∨ so = 1)
    (h1 : smA R v m = decide (so = -1)) (h2 : so ≠ -1 → loA R v m = decide (so = 0)) (h3 : (loA R v m || hiA R v m) = true) :
    Calls Try.prog 20 #[.slice (some ⟨b, 0, none⟩) m cap, .int .i64 v, .int .i64 so] W fun e W' => e = .returned (.bool true) ∧ Hid (Keeps (fun q => q = b) W W' ∧ RowX W' b m (fun j => if so = -1 then R j else R (putN j v (decide (so = 1))))) := by
  have hm64 : m ≤ 64 := by rw [← hm]; exact Nat.le_trans (Nat.pow_le_pow_right (by omega) hk) (by decide)
  have HR := Lib.hid h
  have hlt := h.lt
  have hv0 : (0 : Int) ≤ (v : Int) := by omega
  have hmv : min v 64 = v := Nat.min_eq_left (by omega)
  have HH := Lib.hid (And.intro h1 (And.intro h2 h3))
  have HOR : Hid (∀ i, i < m → i ||| 2 ^ v < m) := fun i hi => by
    rw [← hm] at hi ⊢
    exact Nat.or_lt_two_pow hi (Nat.pow_lt_pow_right (by decide) hv)
  clear h h1 h2 h3
  go_enter Try.func20, Try.ntmps20
  go_wp2_with fail
  go_loopg [7, 8, 9, 16] m (fun g lv hvv sv iv wx => ∃ i : Nat, i ≤ m ∧ g = m - i ∧ iv = .int .i64 i ∧ lv = .bool (loA R v i) ∧ hvv = .bool (hiA R v i) ∧ sv = .bool (smA R v i) ∧ Hid (Keeps (fun _ => False) W wx))
  case atStart => exact ⟨0, Nat.zero_le _, rfl, rfl, rfl, rfl, rfl, Keeps.refl _ _⟩
  case round =>
    obtain ⟨i, hi, rfl, rfl, rfl, rfl, rfl, HK⟩ := hrel
    by_cases hlt2 : i < m
    · have hiI : (i : Int) < (m : Int) := by omega
      have hi0 : (0 : Int) ≤ (i : Int) := by omega
      have hwi : IntKind.i64.wrap ((i : Int) + 1) = (i : Int) + 1 := IntWalk.i64_in _ (by omega)
      have hb1 := shr_fin ⟨i, by omega⟩ ⟨v, by omega⟩
      simp only [] at hb1
      obtain ⟨bt, hbt⟩ : ∃ x, Nat.testBit i v = x := ⟨_, rfl⟩
      rw [hbt] at hb1
      have hlo := loA_succ R v i
      have hhi := hiA_succ R v i
      have hsm := smA_succ R v i
      rw [hbt] at hlo hhi hsm
      cases bt with
      | true =>
        rw [Bool.not_true] at hb1
        rw [Bool.not_true, Bool.false_and, Bool.or_false] at hlo hhi
        rw [Bool.true_or, Bool.and_true] at hsm
        have HL := Lib.hid (And.intro hlo (And.intro hhi hsm))
        clear hlo hhi hsm hbt
        go_wp2_with fail
        go_roundg (m - (i + 1))
        case measure => omega
        case rel => exact ⟨i + 1, by omega, rfl, by go_num, by rw [HL.out.1], by rw [HL.out.2.1], by rw [HL.out.2.2], HK⟩
      | false =>
        rw [Bool.not_false] at hb1
        rw [Bool.not_false, Bool.true_and] at hlo hhi
        rw [Bool.false_or] at hsm
        obtain ⟨hor, hwv⟩ := or_fin ⟨i, by omega⟩ ⟨v, by omega⟩
        simp only [] at hor hwv
        have hql := HOR.out i hlt2
        obtain ⟨q, hq⟩ : ∃ q, i ||| 2 ^ v = q := ⟨_, rfl⟩
        rw [hq] at hor hhi hsm hql
        have hqI : (q : Int) < (m : Int) := by omega
        have hq0 : (0 : Int) ≤ (q : Int) := by omega
        have hor2 : bits BinOp.or IntKind.i64 (i : Int) ((2 : Int) ^ v) = (q : Int) := by rw [← hwv]; exact hor
        have c1 := (HR.out.keeps HK.out (fun x => x)).cell hlt2
        have c2 := (HR.out.keeps HK.out (fun x => x)).cell hql
        generalize R i = x at *
        generalize R q = y at *
        have HL := Lib.hid (And.intro hlo (And.intro hhi hsm))
        clear hlo hhi hsm hbt hq
        generalize loA R v i = lo at *
        generalize hiA R v i = hh at *
        generalize smA R v i = sm at *
        cases lo <;> cases hh <;> cases sm
        all_goals
          go_upto_region 6 with fail
          go_quiet (fail)
          have HK2 : Hid (Keeps (fun _ => False) W (wr.drewN nq)) := HK.out.drewN nq
          go_wp2_with fail
          go_roundg (m - (i + 1))
          case measure => omega
          case rel => exact ⟨i + 1, by omega, rfl, by go_num, by rw [HL.out.1]; rfl, by rw [HL.out.2.1]; rfl, by rw [HL.out.2.2]; rfl, HK2⟩
    · obtain rfl : i = m := by omega
      have hiI : ¬ (i : Int) < (i : Int) := by omega
      obtain ⟨h1, h2, h3⟩ := HH.out
      generalize hgl : loA R v i = lo at *
      generalize hgh : hiA R v i = hh at *
      generalize hgs : smA R v i = sm at *
      have HS0 : ∀ so : Int, Hid (Keeps (fun q => q = b) W wr ∧ RowX wr b i (midR R v so 0)) := fun so => ⟨HK.out.mono (fun _ _ x => x.elim), (HR.out.keeps HK.out (fun x => x)).congr (fun j _ => by unfold midR; rw [if_neg (by omega)])⟩
      clear HH HOR hgl hgh hgs HK
      rcases hso with rfl | rfl | rfl
      · obtain rfl : sm = true := h1
        cases lo with
        | true =>
          have HS := HS0 (-1)
          clear HS0
          try clear h1
          try clear h2
          try clear h3
          go_upto_region 14 with fail
          go_loopg [62] i (fun g iv wx => ∃ t : Nat, t ≤ i ∧ g = i - t ∧ iv = .int .i64 t ∧ Hid (Keeps (fun q => q = b) W wx ∧ RowX wx b i (midR R v (-1) t)))
          case atStart => exact ⟨0, Nat.zero_le _, rfl, rfl, HS⟩
          case round =>
            clear HS
            obtain ⟨t, ht, rfl, rfl, HW⟩ := hrel
            by_cases hltt : t < i
            · have htI : (t : Int) < (i : Int) := by omega
              have ht0 : (0 : Int) ≤ (t : Int) := by omega
              have hwt : IntKind.i64.wrap ((t : Int) + 1) = (t : Int) + 1 := IntWalk.i64_in _ (by omega)
              have HN : Hid (Keeps (fun q => q = b) W wr ∧ RowX wr b i (midR R v (-1) (t + 1))) := ⟨HW.out.1, HW.out.2.congr (fun j _ => by unfold midR; rw [if_pos rfl]; split <;> split <;> rfl)⟩
              clear HW
              go_wp2_with fail
              go_roundg (i - (t + 1))
              case measure => omega
              case rel => exact ⟨t + 1, by omega, rfl, by go_num, HN⟩
            · obtain rfl : t = i := by omega
              have htI : ¬ (t : Int) < (t : Int) := by omega
              have HE : Hid (Keeps (fun q => q = b) W wr ∧ RowX wr b t (fun j => if (-1 : Int) = -1 then R j else R (putN j v (decide ((-1 : Int) = 1))))) := ⟨HW.out.1, HW.out.2.congr (fun j hj => by unfold midR; rw [if_pos hj])⟩
              clear HW
              go_wp2_with fail
              go_ret
              exact ⟨rfl, HE⟩
        | false =>
          obtain rfl : hh = true := h3
          have HS := HS0 (-1)
          clear HS0
          try clear h1
          try clear h2
          try clear h3
          go_upto_region 14 with fail
          go_loopg [62] i (fun g iv wx => ∃ t : Nat, t ≤ i ∧ g = i - t ∧ iv = .int .i64 t ∧ Hid (Keeps (fun q => q = b) W wx ∧ RowX wx b i (midR R v (-1) t)))
          case atStart => exact ⟨0, Nat.zero_le _, rfl, rfl, HS⟩
          case round =>
            clear HS
            obtain ⟨t, ht, rfl, rfl, HW⟩ := hrel
            by_cases hltt : t < i
            · have htI : (t : Int) < (i : Int) := by omega
              have ht0 : (0 : Int) ≤ (t : Int) := by omega
              have hwt : IntKind.i64.wrap ((t : Int) + 1) = (t : Int) + 1 := IntWalk.i64_in _ (by omega)
              have HN : Hid (Keeps (fun q => q = b) W wr ∧ RowX wr b i (midR R v (-1) (t + 1))) := ⟨HW.out.1, HW.out.2.congr (fun j _ => by unfold midR; rw [if_pos rfl]; split <;> split <;> rfl)⟩
              clear HW
              go_wp2_with fail
              go_roundg (i - (t + 1))
              case measure => omega
              case rel => exact ⟨t + 1, by omega, rfl, by go_num, HN⟩
            · obtain rfl : t = i := by omega
              have htI : ¬ (t : Int) < (t : Int) := by omega
              have HE : Hid (Keeps (fun q => q = b) W wr ∧ RowX wr b t (fun j => if (-1 : Int) = -1 then R j else R (putN j v (decide ((-1 : Int) = 1))))) := ⟨HW.out.1, HW.out.2.congr (fun j hj => by unfold midR; rw [if_pos hj])⟩
              clear HW
              go_wp2_with fail
              go_ret
              exact ⟨rfl, HE⟩
      · obtain rfl : sm = false := h1
        obtain rfl : lo = true := h2 (by decide)
        have HS := HS0 (0)
        clear HS0
        try clear h1
        try clear h2
        try clear h3
        go_upto_region 14 with fail
        go_loopg [62] i (fun g iv wx => ∃ t : Nat, t ≤ i ∧ g = i - t ∧ iv = .int .i64 t ∧ Hid (Keeps (fun q => q = b) W wx ∧ RowX wx b i (midR R v (0) t)))
        case atStart => exact ⟨0, Nat.zero_le _, rfl, rfl, HS⟩
        case round =>
          clear HS
          obtain ⟨t, ht, rfl, rfl, HW⟩ := hrel
          by_cases hltt : t < i
          · have htI : (t : Int) < (i : Int) := by omega
            have ht0 : (0 : Int) ≤ (t : Int) := by omega
            have hwt : IntKind.i64.wrap ((t : Int) + 1) = (t : Int) + 1 := IntWalk.i64_in _ (by omega)
            have hcl := clr_fin ⟨t, by omega⟩ ⟨v, by omega⟩
            simp only [] at hcl
            have hql : putN t v false < i := by rw [← hm] at hltt ⊢; exact putN_lt hltt hv _
            have hx := mid_turn (R := R) (v := v) (t := t) (so := 0) (by decide)
            rw [show decide ((0 : Int) = 1) = false from rfl] at hx
            obtain ⟨q, hq⟩ : ∃ q, putN t v false = q := ⟨_, rfl⟩
            rw [hq] at hcl hql hx
            have hqI : (q : Int) < (i : Int) := by omega
            have hq0 : (0 : Int) ≤ (q : Int) := by omega
            go_upto_region 17 with fail
            go_quiet (fail)
            have HK2 : Hid (Keeps (fun q => q = b) W (wr.drewN nq)) := HW.out.1.drewN nq
            have HR2 : Hid (RowX (wr.drewN nq) b i (midR R v 0 t)) := HW.out.2.drewN nq
            generalize wr.drewN nq = w2 at *
            have cq := HR2.out.cell hql
            have ct := HR2.out.cell hltt
            rw [hx] at cq
            have fq := HR2.out.free t
            have lq := HR2.out.lt
            have HN : Hid (Keeps (fun q => q = b) W (w2.setCell ⟨b, t, none⟩ (.bool (R q))) ∧ RowX (w2.setCell ⟨b, t, none⟩ (.bool (R q))) b i (midR R v 0 (t + 1))) := by
              refine ⟨HK2.out.setCell (fun _ => rfl) _, (HR2.out.set hltt (R q)).congr (fun j hj => ?_)⟩
              unfold midR
              by_cases e : j = t
              · rw [if_pos e, if_pos (show j < t + 1 by omega), if_neg (by decide), e, show decide ((0 : Int) = 1) = false from rfl, hq]
              · rw [if_neg e]
                by_cases e2 : j < t
                · rw [if_pos e2, if_pos (show j < t + 1 by omega)]
                · rw [if_neg e2, if_neg (show ¬ j < t + 1 by omega)]
            clear HW HK2 HR2 hx hq hm
            go_wp2_with fail
            go_roundg (i - (t + 1))
            case measure => omega
            case rel => exact ⟨t + 1, by omega, rfl, by go_num, HN⟩
          · obtain rfl : t = i := by omega
            have htI : ¬ (t : Int) < (t : Int) := by omega
            have HE : Hid (Keeps (fun q => q = b) W wr ∧ RowX wr b t (fun j => if (0 : Int) = -1 then R j else R (putN j v (decide ((0 : Int) = 1))))) := ⟨HW.out.1, HW.out.2.congr (fun j hj => by unfold midR; rw [if_pos hj])⟩
            clear HW
            go_wp2_with fail
            go_ret
            exact ⟨rfl, HE⟩
      · obtain rfl : sm = false := h1
        obtain rfl : lo = false := h2 (by decide)
        obtain rfl : hh = true := h3
        have HS := HS0 (1)
        clear HS0
        try clear h1
        try clear h2
        try clear h3
        go_upto_region 14 with fail
        go_loopg [62] i (fun g iv wx => ∃ t : Nat, t ≤ i ∧ g = i - t ∧ iv = .int .i64 t ∧ Hid (Keeps (fun q => q = b) W wx ∧ RowX wx b i (midR R v (1) t)))
        case atStart => exact ⟨0, Nat.zero_le _, rfl, rfl, HS⟩
        case round =>
          clear HS
          obtain ⟨t, ht, rfl, rfl, HW⟩ := hrel
          by_cases hltt : t < i
          · have htI : (t : Int) < (i : Int) := by omega
            have ht0 : (0 : Int) ≤ (t : Int) := by omega
            have hwt : IntKind.i64.wrap ((t : Int) + 1) = (t : Int) + 1 := IntWalk.i64_in _ (by omega)
            have hcl := set_fin ⟨t, by omega⟩ ⟨v, by omega⟩
            simp only [] at hcl
            have hql : putN t v true < i := by rw [← hm] at hltt ⊢; exact putN_lt hltt hv _
            have hx := mid_turn (R := R) (v := v) (t := t) (so := 1) (by decide)
            rw [show decide ((1 : Int) = 1) = true from rfl] at hx
            obtain ⟨q, hq⟩ : ∃ q, putN t v true = q := ⟨_, rfl⟩
            rw [hq] at hcl hql hx
            have hqI : (q : Int) < (i : Int) := by omega
            have hq0 : (0 : Int) ≤ (q : Int) := by omega
            go_upto_region 17 with fail
            go_quiet (fail)
            have HK2 : Hid (Keeps (fun q => q = b) W (wr.drewN nq)) := HW.out.1.drewN nq
            have HR2 : Hid (RowX (wr.drewN nq) b i (midR R v 1 t)) := HW.out.2.drewN nq
            generalize wr.drewN nq = w2 at *
            have cq := HR2.out.cell hql
            have ct := HR2.out.cell hltt
            rw [hx] at cq
            have fq := HR2.out.free t
            have lq := HR2.out.lt
            have HN : Hid (Keeps (fun q => q = b) W (w2.setCell ⟨b, t, none⟩ (.bool (R q))) ∧ RowX (w2.setCell ⟨b, t, none⟩ (.bool (R q))) b i (midR R v 1 (t + 1))) := by
              refine ⟨HK2.out.setCell (fun _ => rfl) _, (HR2.out.set hltt (R q)).congr (fun j hj => ?_)⟩
              unfold midR
              by_cases e : j = t
              · rw [if_pos e, if_pos (show j < t + 1 by omega), if_neg (by decide), e, show decide ((1 : Int) = 1) = true from rfl, hq]
              · rw [if_neg e]
                by_cases e2 : j < t
                · rw [if_pos e2, if_pos (show j < t + 1 by omega)]
                · rw [if_neg e2, if_neg (show ¬ j < t + 1 by omega)]
            clear HW HK2 HR2 hx hq hm
            go_wp2_with fail
            go_roundg (i - (t + 1))
            case measure => omega
            case rel => exact ⟨t + 1, by omega, rfl, by go_num, HN⟩
          · obtain rfl : t = i := by omega
            have htI : ¬ (t : Int) < (t : Int) := by omega
            have HE : Hid (Keeps (fun q => q = b) W wr ∧ RowX wr b t (fun j => if (1 : Int) = -1 then R j else R (putN j v (decide ((1 : Int) = 1))))) := ⟨HW.out.1, HW.out.2.congr (fun j hj => by unfold midR; rw [if_pos hj])⟩
            clear HW
            go_wp2_with fail
            go_ret
            exact ⟨rfl, HE⟩
end Go.Proofs.Ytfakjhcpaiaekaa
