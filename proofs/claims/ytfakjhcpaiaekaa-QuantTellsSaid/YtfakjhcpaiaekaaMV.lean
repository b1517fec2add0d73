/-
  The document's rows: some and all of variables.
-/
import Derived.Test.YtfakjhcpaiaekaaMR
import Derived.Test.YtfakjhcpaiaekaaQuantHoldsState
set_option linter.unusedVariables false
set_option linter.unusedSimpArgs false
set_option linter.unnecessarySimpa false
namespace Go.Proofs.Ytfakjhcpaiaekaa
open Go.ChangeShapes Go.WideShapes Go.ChangeAt Go.RowKit Go.Deep NodePlain SatPlain
set_option maxRecDepth 100000
set_option maxHeartbeats 3200000
theorem srow_spec {W : World} {b m cap k : Nat} {R : Nat → Bool} (h : RowX W b m R) (hcm : m ≤ cap) (hk : k ≤ 6) (hm : 2 ^ k = m) {lv : Value} {l : List Int} (hl : ReadsI W lv l) (hl8 : l.length ≤ 1000) (all : Bool) :
    Calls Try.prog 34 #[.slice (some ⟨b, 0, none⟩) m cap, .int .i64 (k : Int), lv, .bool all] W fun e W' => ∃ b' cap', e = .returned (.slice (some ⟨b', 0, none⟩) m cap') ∧ Hid (m ≤ cap' ∧ Keeps (fun _ => False) W W' ∧ RowX W' b' m (l.foldl (rowS k all) R)) := by
  obtain ⟨i0, hi0, hz0, hz1, hz2⟩ := info_parts binfo
  have hm64 : m ≤ 64 := by rw [← hm]; exact Nat.le_trans (Nat.pow_le_pow_right (by omega) hk) (by decide)
  have hmp : 0 < m := by rw [← hm]; exact Nat.two_pow_pos _
  have HR := Lib.hid h
  obtain ⟨ao, lc, rfl, hlc, hlr⟩ := hl
  obtain ⟨n, hn⟩ : ∃ n, l.length = n := ⟨_, rfl⟩
  rw [hn] at hlc hlr hl8 ⊢
  have HL := Lib.hid hlr
  have HN0 := Lib.hid hn
  have HC : Hid (∀ (W1 : World) (b1 c1 : Nat) (R1 : Nat → Bool) (v : Int) (so : Bool), RowX W1 b1 m R1 → m ≤ c1 → Calls Try.prog 31 #[.slice (some ⟨b1, 0, none⟩) m c1, .int .i64 (k : Int), .int .i64 v, .bool so] W1 fun e W' => ∃ b' cap', e = .returned (.slice (some ⟨b', 0, none⟩) m cap') ∧ Hid (m ≤ cap' ∧ W1.heap.size ≤ b' ∧ Keeps (fun _ => False) W1 W' ∧ RowX W' b' m (rowP k v so R1))) := fun W1 b1 c1 R1 v so h1 h2 => rrow_spec h1 h2 hk hm v so
  clear h hlr hn hm
  go_enter Try.func34, Try.ntmps34
  go_wp2_with fail
  go_loopg [9, 19] n (fun g ov t wy => ∃ (i b1 c1 : Nat), i ≤ n ∧ g = n - i ∧ t = .int .i64 i ∧ ov = .slice (some ⟨b1, 0, none⟩) m c1 ∧ m ≤ c1 ∧ Hid (Keeps (fun _ => False) W wy ∧ RowX wy b1 m ((l.take i).foldl (rowS k all) R)))
  case atStart => exact ⟨0, b, cap, Nat.zero_le _, rfl, rfl, rfl, hcm, Keeps.refl _ _, HR.out⟩
  case round =>
    obtain ⟨i, b1, c1, hi, rfl, rfl, rfl, hc1, HI⟩ := hrel
    by_cases hlt : i < n
    · have hiI : (i : Int) < (n : Int) := by omega
      have hwi : IntKind.i64.wrap ((i : Int) + 1) = (i : Int) + 1 := IntWalk.i64_in _ (by omega)
      have hilc : i < lc := by omega
      obtain ⟨x, hx⟩ : ∃ x, l[i]? = some x := ⟨_, List.getElem?_eq_getElem (by rw [HN0.out]; exact hlt)⟩
      obtain ⟨lg, off, rfl, hlg, hlcell⟩ := HL.out (by omega)
      have hcx := (HI.out.1.cell (p := ⟨lg, off + i, none⟩) hlg (fun x => x)).trans (hlcell i x hx)
      obtain ⟨Q, hQ⟩ : ∃ Q, (l.take i).foldl (rowS k all) R = Q := ⟨_, rfl⟩
      rw [hQ] at HI
      have HT : Hid ((l.take (i + 1)).foldl (rowS k all) R = rowS k all Q x) := by
        show _ = _
        rw [List.take_add_one, hx, List.foldl_append, hQ]
        rfl
      have HC1 := Lib.hid (HC.out wr b1 c1 Q x false HI.out.2 hc1)
      clear hx hlcell hQ
      go_wp2_with fail
      refine HC1.out.mono ?_
      rintro e w2 ⟨ba, ca, rfl, h2⟩
      have hca := h2.out.1
      have HI2 : Hid (Keeps (fun _ => False) W w2 ∧ RowX w2 b1 m Q ∧ RowX w2 ba m (rowP k x false Q)) := ⟨HI.out.1.trans h2.out.2.2.1, HI.out.2.keeps h2.out.2.2.1 (fun x => x), h2.out.2.2.2⟩
      clear h2 HC1 HI hcx
      have HC2 := Lib.hid (HC.out w2 b1 c1 Q x true HI2.out.2.1 hc1)
      go_wp2_with fail
      refine HC2.out.mono ?_
      rintro e w3 ⟨bb, cb, rfl, h3⟩
      have hcb := h3.out.1
      have HI3 : Hid (Keeps (fun _ => False) W w3 ∧ RowX w3 b1 m Q ∧ RowX w3 ba m (rowP k x false Q) ∧ RowX w3 bb m (rowP k x true Q)) := ⟨HI2.out.1.trans h3.out.2.2.1, HI2.out.2.1.keeps h3.out.2.2.1 (fun x => x), HI2.out.2.2.keeps h3.out.2.2.1 (fun x => x), h3.out.2.2.2⟩
      clear h3 HC2 HI2
      go_wp2_with (at_make; refine wpList_make_full _ rfl _ _ 33 rfl w3.heap.size 4 i0 _ 1 Try.underlying33 hi0 hz0 hz1 .i64 .i64 _ _ m rfl rfl rfl rfl (by rw [hz2]; omega) (by unfold maxLen; omega) (Nat.le_refl _) ?_)
      intro w4 hown hgrow
      have k1 : Keeps (fun _ => False) w3 w4 := (keeps_grown hgrow).mono (fun _ _ h => by cases h)
      have hmade : RowAt w4 w3.heap.size m (fun _ => false) := by
        have e := block_of_made (z := #[Value.bool false]) (size := 1) (n := m) (by rw [Nat.mul_one]; exact hown)
        have e2 := madeRow m
        unfold RowAt
        rw [e]
        exact congrArg (fun c => some (Obj.cells c _ _)) e2
      have HK := Lib.hid k1
      have HD := Lib.hid hmade.x
      clear hown hgrow k1 hmade
      go_wp2_with fail
      go_loopg [36] m (fun g t wy => ∃ (j : Nat), j ≤ m ∧ g = m - j ∧ t = .int .i64 j ∧ Hid (Keeps (fun _ => False) w3 wy ∧ RowX wy w3.heap.size m (fun a => decide (a < j) && rowS k all Q x a)))
      case atStart => exact ⟨0, Nat.zero_le _, rfl, rfl, HK.out, HD.out.congr (fun j _ => by simp)⟩
      case round =>
        clear HK HD
        obtain ⟨j, hj, rfl, rfl, HJ⟩ := hrel
        by_cases hlt2 : j < m
        · have hjI : (j : Int) < (m : Int) := by omega
          have hwj : IntKind.i64.wrap ((j : Int) + 1) = (j : Int) + 1 := IntWalk.i64_in _ (by omega)
          have hja : j < ca := by omega
          have hjb : j < cb := by omega
          have co := HJ.out.2.cell hlt2
          have fz := HJ.out.2.free j
          have lb := HJ.out.2.lt
          have cA := (HI3.out.2.2.1.keeps HJ.out.1 (fun x => x)).cell hlt2
          have cB := (HI3.out.2.2.2.keeps HJ.out.1 (fun x => x)).cell hlt2
          have la := Nat.lt_of_lt_of_le HI3.out.2.2.1.lt HJ.out.1.size
          have lbb := Nat.lt_of_lt_of_le HI3.out.2.2.2.lt HJ.out.1.size
          have na : ba ≠ w3.heap.size := by have := HI3.out.2.2.1.lt; omega
          have nb : bb ≠ w3.heap.size := by have := HI3.out.2.2.2.lt; omega
          have HN : Hid (∀ z, z = rowS k all Q x j → Keeps (fun _ => False) w3 (wr.setCell ⟨w3.heap.size, j, none⟩ (.bool z)) ∧ RowX (wr.setCell ⟨w3.heap.size, j, none⟩ (.bool z)) w3.heap.size m (fun a => decide (a < j + 1) && rowS k all Q x a)) := fun z hz => by
            refine ⟨HJ.out.1.setCell (fun h => by simp only [] at h; omega) _, (HJ.out.2.set hlt2 z).congr (fun a _ => ?_)⟩
            by_cases e : a = j
            · subst e; rw [if_pos rfl, hz]; simp
            · rw [if_neg e]
              have : decide (a < j) = decide (a < j + 1) := by
                by_cases h : a < j
                · rw [decide_eq_true h, decide_eq_true (by omega)]
                · rw [decide_eq_false h, decide_eq_false (by omega)]
              rw [this]
          clear HJ
          have HZ : Hid (rowS k all Q x j = if all then rowP k x false Q j && rowP k x true Q j else rowP k x false Q j || rowP k x true Q j) := rfl
          generalize rowP k x false Q j = A at *
          generalize rowP k x true Q j = B at *
          cases all <;> cases A
          all_goals
            go_wp2_with fail
            go_roundg (m - (j + 1))
            case measure => omega
            case rel => exact ⟨j + 1, by omega, rfl, by go_num, HN.out _ HZ.out.symm⟩
        · obtain rfl : j = m := by omega
          have hjI : ¬ (j : Int) < (j : Int) := by omega
          have HE : Hid (Keeps (fun _ => False) W wr ∧ RowX wr w3.heap.size j ((l.take (i + 1)).foldl (rowS k all) R)) := ⟨HI3.out.1.trans HJ.out.1, HJ.out.2.congr (fun a ha => by rw [HT.out, decide_eq_true ha, Bool.true_and])⟩
          clear HJ
          go_wp2_with fail
          go_roundg (n - (i + 1))
          case measure => omega
          case rel => exact ⟨i + 1, w3.heap.size, j, by omega, rfl, by go_num, rfl, Nat.le_refl _, HE⟩
    · obtain rfl : i = n := by omega
      have hiI : ¬ (i : Int) < (i : Int) := by omega
      have HE : Hid (RowX wr b1 m (l.foldl (rowS k all) R)) := by
        have q := HI.out.2
        rw [List.take_of_length_le (by rw [HN0.out]; exact Nat.le_refl _)] at q
        exact q
      have HK := Lib.hid HI.out.1
      clear HI
      go_wp2_with fail
      go_ret
      exact ⟨b1, c1, rfl, hc1, HK.out, HE.out⟩
end Go.Proofs.Ytfakjhcpaiaekaa
/-
  The document's rows: what a row changes with.
-/
set_option linter.unusedVariables false
set_option linter.unusedSimpArgs false
set_option linter.unnecessarySimpa false
namespace Go.Proofs.Ytfakjhcpaiaekaa
open Go.ChangeShapes Go.WideShapes Go.ChangeAt Go.RowKit Go.Deep NodePlain SatPlain
def iCells (l : List Int) : List Value := l.map fun j => Value.int .i64 j
theorem iCells_snoc (l : List Int) (x : Int) : iCells (l ++ [x]) = iCells l ++ [.int .i64 x] := by simp [iCells]
/-- A row of numbers of the program's own. -/
def OwnI (w W : World) (v : Value) (l : List Int) : Prop := W.ownsRow w.heap.size 3 1 v l.length (iCells l)
theorem OwnI.reads {w W : World} {v : Value} {l : List Int} (h : OwnI w W v l) : ReadsI W v l := by
  obtain ⟨ao, cap, rfl, hle, _, hno, hc⟩ := own_form h
  refine ⟨ao, cap, rfl, hle, fun h0 => ?_⟩
  cases ao with
  | none => have := (hno rfl).1; omega
  | some b =>
    obtain ⟨q1, q2, q3, q4, q5⟩ := hc b rfl
    obtain ⟨b, o, sp⟩ := b
    simp only at q1 q2 q3 q4 q5
    subst q1 q2
    exact ⟨b, 0, rfl, q3, fun j x hj => by rw [Nat.zero_add]; exact q5 j _ (by unfold iCells; rw [List.getElem?_map, hj]; rfl)⟩
theorem OwnI.keeps {w W W' : World} {v : Value} {l : List Int} (h : OwnI w W v l) (hk : Keeps (fun _ => False) W W') : OwnI w W' v l := by
  exact ownsRow_keeps' h hk (fun _ _ x => x)
set_option maxRecDepth 100000
set_option maxHeartbeats 3200000
theorem supprow_spec {W : World} {b m cap k : Nat} {R : Nat → Bool} (h : RowX W b m R) (hcm : m ≤ cap) (hk : k ≤ 6) (hm : 2 ^ k = m) :
    Calls Try.prog 36 #[.slice (some ⟨b, 0, none⟩) m cap, .int .i64 (k : Int)] W fun e W' => ∃ v, e = .returned v ∧ Hid (Keeps (fun _ => False) W W' ∧ ReadsI W' v (rowV R k m k)) := by
  obtain ⟨i0, hi0, hz0, hz1, hz2⟩ := info_parts iinfo
  have hm64 : m ≤ 64 := by rw [← hm]; exact Nat.le_trans (Nat.pow_le_pow_right (by omega) hk) (by decide)
  have HR := Lib.hid h
  have HC : Hid (∀ (W1 : World) (v : Int) (so : Bool), RowX W1 b m R → Calls Try.prog 31 #[.slice (some ⟨b, 0, none⟩) m cap, .int .i64 (k : Int), .int .i64 v, .bool so] W1 fun e W' => ∃ b' cap', e = .returned (.slice (some ⟨b', 0, none⟩) m cap') ∧ Hid (m ≤ cap' ∧ W1.heap.size ≤ b' ∧ Keeps (fun _ => False) W1 W' ∧ RowX W' b' m (rowP k v so R))) := fun W1 v so h1 => rrow_spec h1 hcm hk hm v so
  clear h hm
  go_enter Try.func36, Try.ntmps36
  go_wp2_with fail
  go_loopg [5, 6] k (fun g ov t wy => ∃ (i : Nat), i ≤ k ∧ g = k - i ∧ t = .int .i64 i ∧ Hid (Keeps (fun _ => False) W wy ∧ OwnI W wy ov (rowV R k m i)))
  case atStart => exact ⟨0, Nat.zero_le _, rfl, rfl, Keeps.refl _ _, World.ownsRow_nil _ _ _ _⟩
  case round =>
    obtain ⟨i, hi, rfl, rfl, HI⟩ := hrel
    by_cases hlt : i < k
    · have hiI : (i : Int) < (k : Int) := by omega
      have hwi : IntKind.i64.wrap ((i : Int) + 1) = (i : Int) + 1 := IntWalk.i64_in _ (by omega)
      have HC1 := Lib.hid (HC.out wr (i : Int) false (HR.out.keeps HI.out.1 (fun x => x)))
      go_wp2_with fail
      refine HC1.out.mono ?_
      rintro e w2 ⟨ba, ca, rfl, h2⟩
      have hca := h2.out.1
      have HI2 : Hid (Keeps (fun _ => False) W w2 ∧ OwnI W w2 u5 (rowV R k m i) ∧ RowX w2 ba m (rowP k (i : Int) false R)) := ⟨HI.out.1.trans h2.out.2.2.1, HI.out.2.keeps h2.out.2.2.1, h2.out.2.2.2⟩
      clear h2 HC1 HI
      have HC2 := Lib.hid (HC.out w2 (i : Int) true (HR.out.keeps HI2.out.1 (fun x => x)))
      go_wp2_with fail
      refine HC2.out.mono ?_
      rintro e w3 ⟨bb, cb, rfl, h3⟩
      have hcb := h3.out.1
      have HI3 : Hid (Keeps (fun _ => False) W w3 ∧ OwnI W w3 u5 (rowV R k m i) ∧ RowX w3 ba m (rowP k (i : Int) false R) ∧ RowX w3 bb m (rowP k (i : Int) true R)) := ⟨HI2.out.1.trans h3.out.2.2.1, HI2.out.2.1.keeps h3.out.2.2.1, HI2.out.2.2.keeps h3.out.2.2.1 (fun x => x), h3.out.2.2.2⟩
      clear h3 HC2 HI2
      go_wp2_with fail
      go_loopg [9, 26] m (fun g sv t wy => ∃ (j nq : Nat), j ≤ m ∧ g = m - j ∧ t = .int .i64 j ∧ sv = .bool (stillV R k (i : Int) j) ∧ Hid (Keeps (fun _ => False) w3 wy))
      case atStart => exact ⟨0, 0, Nat.zero_le _, rfl, rfl, rfl, Keeps.refl _ _⟩
      case round =>
        obtain ⟨j, nq, hj, rfl, rfl, rfl, HJ⟩ := hrel
        by_cases hlt2 : j < m
        · have hjI : (j : Int) < (m : Int) := by omega
          have hwj : IntKind.i64.wrap ((j : Int) + 1) = (j : Int) + 1 := IntWalk.i64_in _ (by omega)
          have hja : j < ca := by omega
          have hjb : j < cb := by omega
          have cA := (HI3.out.2.2.1.keeps HJ.out (fun x => x)).cell hlt2
          have cB := (HI3.out.2.2.2.keeps HJ.out (fun x => x)).cell hlt2
          have HZ : Hid (stillV R k (i : Int) (j + 1) = (stillV R k (i : Int) j && (rowP k (i : Int) false R j == rowP k (i : Int) true R j))) := stillV_succ R k (i : Int) j
          generalize rowP k (i : Int) false R j = A at *
          generalize rowP k (i : Int) true R j = B at *
          generalize stillV R k (i : Int) j = sv at *
          cases sv
          all_goals
            go_upto_region 10 with fail
            go_quiet (fail)
            have HK2 : Hid (Keeps (fun _ => False) w3 (wr.drewN nq)) := HJ.out.drewN nq
            go_wp2_with fail
            go_roundg (m - (j + 1))
            case measure => omega
            case rel => exact ⟨j + 1, 0, by omega, rfl, by go_num, by rw [HZ.out]; rfl, HK2⟩
        · obtain rfl : j = m := by omega
          have hjI : ¬ (j : Int) < (j : Int) := by omega
          have HK4 : Hid (Keeps (fun _ => False) W wr) := HI3.out.1.trans HJ.out
          have HO4 := Lib.hid (HI3.out.2.1.keeps HJ.out)
          have hbl := rowV_len R k j i
          have hz := rowV_succ R k j i
          have hsz := HK4.out.size
          generalize stillV R k (i : Int) j = sv at *
          clear HJ HI3
          cases sv with
          | true =>
            rw [if_pos rfl] at hz
            have HN : Hid (Keeps (fun _ => False) W wr ∧ OwnI W wr u5 (rowV R k j (i + 1))) := by rw [hz]; exact ⟨HK4.out, HO4.out⟩
            clear HO4 HK4 hz
            go_wp2_with fail
            go_roundg (k - (i + 1))
            case measure => omega
            case rel => exact ⟨i + 1, by omega, rfl, by go_num, HN⟩
          | false =>
            rw [if_neg (by decide)] at hz
            have HB := Lib.hid hz
            have HOW : Hid (wr.ownsRow W.heap.size 3 1 u5 (rowV R k j i).length (iCells (rowV R k j i))) := HO4.out
            clear HO4 hz
            go_wp2_with (at_builtin; refine wpList_append_own _ rfl _ _ 27 rfl W.heap.size 3 i0 _ 1 8 Try.underlying27 hi0 hz0 hz1 hz2 rfl (by decide) _ _ _ rfl (HOW.out.alloc _) ⟨wr.heap.size, 0, none⟩ 1 1 [.int .i64 (i : Int)] rfl rfl (cells_new wr _ _) (by intro u hu; simp only [List.mem_cons, List.not_mem_nil, or_false] at hu; subst hu; rfl) (by unfold maxLen; omega) (by omega) (by simp; omega) ?_)
            intro v2 w6 hown2 hgrow _
            have HN : Hid (Keeps (fun _ => False) W w6 ∧ OwnI W w6 v2 (rowV R k j (i + 1))) := by
              refine ⟨?_, ?_⟩
              · exact (HK4.out.trans ((Keeps.refl (fun _ => False) wr).alloc _)).trans_new (keeps_grown hgrow) (fun q hq e => by have := own_block HOW.out q e; omega)
              · show w6.ownsRow _ _ _ _ (rowV R k j (i + 1)).length (iCells (rowV R k j (i + 1)))
                rw [HB.out, iCells_snoc, List.length_append]
                exact hown2
            clear hown2 hgrow HOW HK4 HB
            go_wp2_with fail
            go_roundg (k - (i + 1))
            case measure => omega
            case rel => exact ⟨i + 1, by omega, rfl, by go_num, HN⟩
    · obtain rfl : i = k := by omega
      have hiI : ¬ (i : Int) < (i : Int) := by omega
      have HE : Hid (Keeps (fun _ => False) W wr ∧ ReadsI wr u5 (rowV R i m i)) := ⟨HI.out.1, HI.out.2.reads⟩
      clear HI
      go_wp2_with fail
      go_ret
      exact ⟨_, rfl, HE⟩
end Go.Proofs.Ytfakjhcpaiaekaa
/-
  A maker behind a play with its list and its rows; what quant's calls leave of it, and of rows beside it.
-/
set_option linter.unusedVariables false
set_option linter.unusedSimpArgs false
set_option linter.unnecessarySimpa false
namespace Go.Proofs.Ytfakjhcpaiaekaa
open Go.ChangeShapes Go.WideShapes Go.ChangeAt Go.RowKit Go.Deep NodePlain
/-- A row beside the maker's blocks. -/
structure RxF (W : World) (F : Nat → Prop) (b m : Nat) (R : Nat → Bool) : Prop where
  row : RowX W b m R
  nf : ¬ F b
theorem RxF.move {W W' : World} {F F' : Nat → Prop} {b m : Nat} {R : Nat → Bool} (h : RxF W F b m R) (hm : Mv W W' F F') : RxF W' F' b m R := by
  refine ⟨h.row.keeps hm.keeps h.nf, fun hf => ?_⟩
  rcases hm.fp b hf with hf | hf
  · exact h.nf hf
  · have := h.row.lt; omega
theorem RxF.quiet {W W' : World} {F : Nat → Prop} {b m : Nat} {R : Nat → Bool} (h : RxF W F b m R) (hk : Keeps (fun _ => False) W W') : RxF W' F b m R := ⟨h.row.keeps hk (fun x => x), h.nf⟩
/-- The rows of a play, beside the maker's blocks. -/
structure RwT (W : World) (F : Nat → Prop) (m rb : Nat) (bs : List Nat) (Rs : List (Nat → Bool)) : Prop where
  r : ∀ (i b : Nat), bs[i]? = some b → W.cell? ⟨rb, i, none⟩ = some (.slice (some ⟨b, 0, none⟩) m m)
  row : ∀ (i b : Nat) (R : Nat → Bool), bs[i]? = some b → Rs[i]? = some R → RxF W F b m R
  nf : ¬ F rb
  lt : rb < W.heap.size
theorem RwT.move {W W' : World} {F F' : Nat → Prop} {m rb : Nat} {bs : List Nat} {Rs : List (Nat → Bool)} (h : RwT W F m rb bs Rs) (hm : Mv W W' F F') : RwT W' F' m rb bs Rs := by
  refine ⟨fun i b hb => (hm.keeps.cell (p := ⟨rb, i, none⟩) h.lt h.nf).trans (h.r i b hb), fun i b R h1 h2 => (h.row i b R h1 h2).move hm, fun hf => ?_, Nat.lt_of_lt_of_le h.lt hm.keeps.size⟩
  rcases hm.fp rb hf with hf | hf
  · exact h.nf hf
  · have := h.lt; omega
/-- The maker and the rows, so many calls on. -/
structure QtS (w W : World) (k : Nat) (s : PlS) (c d lb rb m : Nat) (bs : List Nat) (st : St) (kc : Nat) (calls : Int) (F : Nat → Prop) : Prop where
  ms : MkS w W k s (c * 64) c d lb st kc calls F
  r : RwT W F m rb bs s.Rs
/-- What each of these calls leaves. -/
def QtPost (w W : World) (k : Nat) (s : PlS) (c q d lb rb m : Nat) (bs : List Nat) (st : St) (F : Nat → Prop) (S : (Nat → Bool) → Bool) (e : Ending) (W' : World) : Prop :=
  ∃ z st' kc' calls' F', e = .returned (.int .i64 z) ∧ Hid (QtS w W' k s (c + q) d lb rb m bs st' kc' calls' F' ∧ Ext st.L st.n st'.L st'.n ∧ Num st' z S ∧ Mv W W' F F')
section
variable {w W W' : World} {k : Nat} {s : PlS} {c d lb rb m : Nat} {bs : List Nat} {st : St} {kc : Nat} {calls : Int} {F : Nat → Prop}
theorem QtS.quiet (h : QtS w W k s c d lb rb m bs st kc calls F) (hk : Keeps (fun _ => False) W W') : QtS w W' k s c d lb rb m bs st kc calls F := ⟨h.ms.quiet hk, h.r.move (Mv.quiet hk)⟩
theorem QtS.wider (h : QtS w W k s c d lb rb m bs st kc calls F) {c' : Nat} (hc : c ≤ c') : QtS w W k s c' d lb rb m bs st kc calls F := ⟨h.ms.more (Nat.mul_le_mul_right _ hc) hc, h.r⟩
theorem QtS.step (h : QtS w W k s c d lb rb m bs st kc calls F) (hk6 : k ≤ 6) {q q' : Nat} {x : Int} {st' : St} {F' : Nat → Prop} {calls' : Int} {S E : (Nat → Bool) → Bool} (mk : Mk W d k 1048576 st kc q F x st' (kc + q) F' calls' W' S) (h0 : calls ≤ calls') (h1 : calls' ≤ calls + (q : Int)) (hq : q ≤ q') (he : ∀ β, S β = E β) :
    ∃ z st' kc' calls' F', Ending.returned (.int .i64 x) = .returned (.int .i64 z) ∧ Hid (QtS w W' k s (c + q') d lb rb m bs st' kc' calls' F' ∧ Ext st.L st.n st'.L st'.n ∧ Num st' z E ∧ Mv W W' F F') := by
  have a := h.ms.step hk6 mk h0 h1
  rw [← Nat.add_mul] at a
  exact ⟨x, st', _, _, F', rfl, (QtS.mk a (h.r.move mk.mv)).wider (by omega), mk.ext, ⟨mk.isx, fun β => by rw [mk.ev, he]⟩, mk.mv⟩
theorem QtS.restr (h : QtS w W k s c d lb rb m bs st kc calls F) (hk6 : k ≤ 6) (hc : c ≤ 14000) {f : Int} {E : (Nat → Bool) → Bool} (hf : Num st f E) (v : Int) (so : Bool) :
    Calls Try.prog 24 #[.pointer (some ⟨d, 0, none⟩), .int .i64 f, .int .i64 v, .bool so] W (QtPost w W k s c 1 d lb rb m bs st F (fun β => E (putB β v so))) := by
  have hn := h.ms.n
  have hk := h.ms.kc
  have hp := pow6 hk6
  refine (restrict_spec h.ms.bd (by omega) (by omega) h.ms.fine (by omega) hf.is v so (by omega)).mono ?_
  rintro e W2 ⟨x, st', F', rfl, hm⟩
  exact h.step hk6 hm.out (by omega) (by omega) (Nat.le_refl _) (fun β => hf.ev _)
theorem QtS.put (h : QtS w W k s c d lb rb m bs st kc calls F) (hk6 : k ≤ 6) (hc : c ≤ 14000) {f g : Int} {E G : (Nat → Bool) → Bool} (hf : Num st f E) (hg : Num st g G) (v : Int) :
    Calls Try.prog 30 #[.pointer (some ⟨d, 0, none⟩), .int .i64 f, .int .i64 v, .int .i64 g] W (QtPost w W k s c 3 d lb rb m bs st F (fun β => if G β then E (putB β v true) else E (putB β v false))) := by
  have hn := h.ms.n
  have hk := h.ms.kc
  have hc1 := h.ms.c1
  have hp := pow6 hk6
  refine (put_qspec h.ms.bd (by omega) (by omega) h.ms.fine hf.is hg.is v (by omega) h.ms.c0 (by omega) (by omega)).mono ?_
  rintro e W2 ⟨x, st', F', rfl, hm⟩
  exact h.step hk6 hm.out (by omega) (by omega) (Nat.le_refl _) (fun β => by rw [hf.ev, hf.ev, hg.ev])
theorem QtS.someR (or : Bool) (h : QtS w W k s c d lb rb m bs st kc calls F) (hk6 : k ≤ 6) (hc : c ≤ 13000) {f : Int} {E : (Nat → Bool) → Bool} (hf : Num st f E) {v : Value} {l : List Int} (hr : ReadsI W v l) (hrf : ∀ g off n cap, v = .slice (some ⟨g, off, none⟩) n cap → 0 < l.length → ¬ F g) (hl : l.length ≤ 8) :
    Calls Try.prog (if or then 21 else 23) #[.pointer (some ⟨d, 0, none⟩), .int .i64 f, v] W (QtPost w W k s c 32 d lb rb m bs st F (eachEv or E l)) := by
  have hn := h.ms.n
  have hk := h.ms.kc
  have hc1 := h.ms.c1
  have hp := Nat.mul_le_mul (show 4 * l.length ≤ 32 by omega) (pow6 hk6)
  have hE : (fun β => NodePlain.ev st.L β f) = E := funext hf.ev
  cases or with
  | true =>
    refine (some_spec h.ms.bd (by omega) (by omega) h.ms.fine hf.is rfl hr hrf (by omega) (by omega) h.ms.c0 (by omega) (by omega)).mono ?_
    rintro e W2 ⟨x, st', F', rfl, hm⟩
    exact h.step hk6 hm.out (by omega) (by omega) (by omega) (fun β => by rw [hE])
  | false =>
    refine (qeach_spec h.ms.bd (by omega) (by omega) h.ms.fine hf.is rfl hr hrf (by omega) (by omega) h.ms.c0 (by omega) (by omega)).mono ?_
    rintro e W2 ⟨x, st', F', rfl, hm⟩
    exact h.step hk6 hm.out (by omega) (by omega) (by omega) (fun β => by rw [hE])
/-- A row that was there before the maker. -/
theorem reads_old {v : Value} {l : List Int} (h : ReadsI w v l) (hk : Keeps (fun x => w.heap.size ≤ x) w W) : ReadsI W v l := by
  obtain ⟨ao, cap, hv, hle, hr⟩ := h
  refine ⟨ao, cap, hv, hle, fun h0 => ?_⟩
  obtain ⟨g, off, h1, h2, h3⟩ := hr h0
  exact ⟨g, off, h1, Nat.lt_of_lt_of_le h2 hk.size, fun j x hj => (hk.cell (p := ⟨g, off + j, none⟩) h2 (fun hx => by have : w.heap.size ≤ g := hx; omega)).trans (h3 j x hj)⟩
theorem QtS.named (or : Bool) (h : QtS w W k s c d lb rb m bs st kc calls F) (hk6 : k ≤ 6) (hc : c ≤ 13000) {f : Int} {E : (Nat → Bool) → Bool} (hf : Num st f E) {v : Value} {l : List Int} (hr : ReadsI w v l) (hl : l.length ≤ 8) :
    Calls Try.prog (if or then 21 else 23) #[.pointer (some ⟨d, 0, none⟩), .int .i64 f, v] W (QtPost w W k s c 32 d lb rb m bs st F (eachEv or E l)) := by
  refine h.someR or hk6 hc hf (reads_old hr h.ms.kp) (fun g off n cap e h0 hg => ?_) hl
  obtain ⟨ao, cp, hv, _, hrr⟩ := hr
  obtain ⟨g', off', h1, h2, _⟩ := hrr h0
  rw [hv, h1] at e
  simp only [Value.slice.injEq, Option.some.injEq, Addr.mk.injEq, and_true] at e
  have := h.ms.fw g hg
  omega
/-- Is a diagram true where a row is? -/
theorem QtS.isR (h : QtS w W k s c d lb rb m bs st kc calls F) (hk6 : k ≤ 6) (hm : 2 ^ k = m) (hc : c ≤ 14000) {f : Int} {E : (Nat → Bool) → Bool} {R : Nat → Bool} {b cap : Nat} (hf : Num st f E) (hR : RowOf k E R) (hr : RowX W b m R) (hcm : m ≤ cap) :
    Calls Try.prog 32 #[.pointer (some ⟨d, 0, none⟩), .int .i64 f, .slice (some ⟨b, 0, none⟩) m cap] W fun e W' => e = .returned (.bool true) ∧ Hid (Keeps (fun _ => False) W W') := by
  have hn := h.ms.n
  exact is_spec h.ms.bd hk6 (by omega) hf.is hf.ev hR hr hcm hm
end
/-- Behind the play: the maker, the list, the rows. -/
theorem qt_of {k : Nat} {s : PlS} {w w1 w2 : World} {Fd Fd' : Nat → Prop} {m d : Nat} {lv rv : Value} {bs : List Nat} {os : List OpR} (hk6 : k ≤ 6) (hs : playM k 1048576 k os = s) (hd : Bd w1 d k 1048576 st0 0 Fd ∧ Keeps (fun _ => False) w w1 ∧ ∀ x, Fd x → w.heap.size ≤ x) (pd : Pl w1.heap.size w2 d k 1048576 m s.st s.calls Fd' s.l lv s.Rs rv bs ∧ Mv w1 w2 Fd Fd') (h0 : 0 < s.l.length) (hn : s.st.n ≤ 23040) (hc : s.calls ≤ 90) :
    ∃ lb lc rb rc, lv = .slice (some ⟨lb, 0, none⟩) s.l.length lc ∧ s.l.length ≤ lc ∧ rv = .slice (some ⟨rb, 0, none⟩) s.l.length rc ∧ s.l.length ≤ rc ∧ bs.length = s.l.length ∧ ∃ F, QtS w w2 k s 0 d lb rb m bs s.st 90 s.calls F := by
  obtain ⟨lb, lc, rb, rc, e1, e2, e3, e4, e5, e5', e6, e6', e7, e7'⟩ := pd.1.form h0
  have q1 := hd.2.1.size
  have k2 : Keeps (fun x => w.heap.size ≤ x) w w1 := hd.2.1.mono (fun _ _ x => x.elim)
  have k3 : Keeps (fun x => w.heap.size ≤ x) w w2 := k2.trans_new pd.2.keeps (fun i hi hx => hd.2.2 i hx)
  obtain ⟨j, hj, _, hI, _⟩ := playM_inv (V := k) (B := 1048576) (by omega) (by omega) k os
  have hB := playM_bnd (V := k) (B := 1048576) (by omega) k os
  rw [hs] at hI hB
  refine ⟨lb, lc, rb, rc, e1, e3, e2, e4, pd.1.l1, Fd', ⟨⟨pd.1.bd, ⟨hI.wf.mono (by omega), hB⟩, Ext.refl _ _, by omega, Nat.le_refl _, by omega, by omega, e5, e6, fun x hx => ?_, e7, k3, ?_⟩, ⟨e7', fun i b R h1 h2 => ⟨(pd.1.row i b R h1 h2).1.x, (pd.1.row i b R h1 h2).2⟩, e5', e6'⟩⟩⟩
  · exact (pd.2.fp x hx).elim (hd.2.2 x) (fun hx => by omega)
  · have := pd.1.lz lb (by rw [e1]; rfl)
    omega
/-- A function in a variable's place. -/
theorem put_row {k : Nat} {E G : (Nat → Bool) → Bool} {R Q : Nat → Bool} (hd : Deps k E) (h : RowOf k E R) (hg : RowOf k G Q) (v : Int) : RowOf k (fun β => if G β then E (putB β v true) else E (putB β v false)) (fun i => if Q i then rowP k v true R i else rowP k v false R i) := fun b hb => by
  have h1 := rowP_of hd h v false b hb
  have h2 := rowP_of hd h v true b hb
  simp only [] at h1 h2
  show (if G (Nat.testBit b) then _ else _) = _
  rw [hg b hb, h1, h2]
end Go.Proofs.Ytfakjhcpaiaekaa
