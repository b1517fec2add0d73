/-
  Which variables a diagram hangs on: the program's walk.
-/
import Derived.Test.YtfakjhcpaiaekaaQuantSortNil
import Derived.Test.YtfakjhcpaiaekaaQuantSuppPlain
import Derived.Test.YtfakjhcpaiaekaaQuantSize
import Derived.Maps.RangeWalk
set_option linter.unusedVariables false
set_option linter.unusedSimpArgs false
set_option linter.unnecessarySimpa false
namespace Go.Proofs.Ytfakjhcpaiaekaa
open Go.ChangeShapes Go.WideShapes Go.ChangeAt Go.RowKit Go.Deep NodePlain
theorem sorted_le (l : List Int) : (l.mergeSort fun x y => decide (x ≤ y)).Pairwise (fun a b => a ≤ b) := by
  have h := List.pairwise_mergeSort (le := fun x y : Int => decide (x ≤ y)) (fun a b c h1 h2 => by simp only [decide_eq_true_eq] at h1 h2 ⊢; omega) (fun a b => by simp only [Bool.or_eq_true, decide_eq_true_eq]; omega) l
  exact h.imp (fun h => of_decide_eq_true h)
theorem sorted_at (l : List Int) : ∀ i j, i ≤ j → j < (l.mergeSort fun x y => decide (x ≤ y)).toArray.size → (l.mergeSort fun x y => decide (x ≤ y)).toArray[i]! ≤ (l.mergeSort fun x y => decide (x ≤ y)).toArray[j]! := by
  intro i j hij hj
  have hs := sorted_le l
  generalize (l.mergeSort fun x y => decide (x ≤ y)) = m at *
  have hj' : j < m.length := by simpa using hj
  rw [getElem!_pos m.toArray i (by simp; omega), getElem!_pos m.toArray j hj]
  simp only [List.getElem_toArray]
  rcases Nat.lt_or_eq_of_le hij with h | h
  · exact List.pairwise_iff_getElem.1 hs i j (by omega) hj' h
  · subst h; exact Int.le_refl _
/-- What comes of a row by sort and compaction. -/
def suppL (l : List Int) : List Int := Go.Lib.compactUpTo (l.mergeSort fun x y => decide (x ≤ y)).toArray (l.mergeSort fun x y => decide (x ≤ y)).length
theorem supp_rises (l : List Int) : (suppL l).Pairwise (· < ·) := compact_rises _ (sorted_at l) _ (by simp)
theorem supp_mem (l : List Int) (z : Int) : z ∈ suppL l ↔ z ∈ l := by
  have hp : (l.mergeSort fun x y => decide (x ≤ y)).Perm l := List.mergeSort_perm l _
  rw [← hp.mem_iff]
  unfold suppL
  generalize (l.mergeSort fun x y => decide (x ≤ y)) = m
  constructor
  · intro h
    obtain ⟨j, hj, rfl⟩ := compact_from _ _ h
    rw [getElem!_pos m.toArray j (by simpa using hj)]
    simp
  · intro h
    obtain ⟨j, hj, rfl⟩ := List.mem_iff_getElem.1 h
    have := compact_mem m.toArray m.length j hj
    rw [getElem!_pos m.toArray j (by simpa using hj)] at this
    simpa using this
theorem supp_len (l : List Int) : (suppL l).length ≤ l.length := by
  unfold suppL Go.Lib.compactUpTo
  rw [List.length_map]
  refine Nat.le_trans (List.length_filter_le _ _) ?_
  simp
theorem holds_own {w : World} {base g cap : Nat} {l : List Int} (h : w.ownsRow base 3 1 (.slice (some ⟨g, 0, none⟩) l.length cap) l.length (l.map (Value.int .i64))) : Go.Sort.Holds (Value.int .i64) w g 0 l.toArray := by
  intro j hj
  have hj' : j < l.length := by simpa using hj
  obtain ⟨hl, h | ⟨g', cap', cur, hv, _, hh, _, _, hs, ht⟩⟩ := h
  · cases h.1
  · simp only [Value.slice.injEq, Option.some.injEq, Addr.mk.injEq, and_true] at hv
    obtain ⟨rfl, _, _⟩ := hv
    rw [Nat.zero_add]
    refine ⟨?_, free_of_heap hh j⟩
    rw [cell_of_heap hh]
    have e : (cur.toList.take (l.length * 1))[j]? = (l.map (Value.int .i64))[j]? := by rw [ht]
    rw [List.getElem?_take_of_lt (by omega), Array.getElem?_toList, List.getElem?_map, List.getElem?_eq_getElem hj'] at e
    rw [e, getElem!_pos l.toArray j hj]
    simp
/-- Where the loop over the map stands. -/
structure SupI (w0 W : World) (mb r N : Nat) (D : DataW Unit) (K : Int → Option Int) (base : Nat) (g : Nat) (v : Value) (left : Lit → Bool) (l : List Int) : Prop where
  rg : W.ranges Try.prog 3 (plainElem (H := Unit) Try.prog 3) mb r N D left g
  own : W.ownsRow base 3 1 v l.length (l.map (Value.int .i64))
  kp : Keeps (fun _ => False) w0 W
  nil : l = [] → v = .slice none 0 0
  from_ : ∀ z ∈ l, ∃ x, K x = some z
  all : ∀ x z, K x = some z → left (.int .i64 x) = false → z ∈ l
  cnt : l.length + g ≤ Go.Maps.size D
  lt : mb < base ∧ r < base ∧ base ≤ W.heap.size
  lh : ∀ kl, left kl = true → Go.Maps.has D kl = true
section
variable {W : World} {d : Nat} {B : Int} {st : St} {calls : Int} {Fp : Nat → Prop} {k : Nat}
set_option maxRecDepth 100000
set_option maxHeartbeats 3200000
theorem support_spec (h : Bd W d (k : Int) B st calls Fp) (hk6 : k ≤ 6) (hn : st.n ≤ 10000000) {f : Int} (hi : getN st.L st.n f = none ∨ isN st.n f = true) (hb0 : -9223372036854775808 ≤ f) (hb1 : f ≤ 9223372036854775807) :
    Calls Try.prog 25 #[.pointer (some ⟨d, 0, none⟩), .int .i64 f] W fun e W' => ∃ v l Lk, e = .returned v ∧ Hid (Keeps (fun _ => False) W W' ∧ ReadsI W' v (suppL l) ∧ Dfs st.L st.n [] f Lk ∧ (∀ z, z ∈ l ↔ ∃ x ∈ Lk, ∃ lo hi, getN st.L st.n x = some (z, lo, hi)) ∧ l.length ≤ Lk.length ∧ l.length ≤ 1000000) := by
  obtain ⟨i0, hi0, hz0, hz1, hz2⟩ := info_parts iinfo
  have HC := Lib.hid (nodes_spec h (by omega) (by omega) hn hi hb0 hb1)
  clear h hi hn
  go_enter Try.func25, Try.ntmps25
  go_wp2_with fail
  refine HC.out.mono ?_
  rintro e w1 ⟨mb, rfl, h1⟩
  obtain ⟨N, K, Lk, hk1, hm, hd, hkv, hN⟩ := h1.out
  obtain ⟨D, hown, hD, hsz, hnl, hL⟩ := hm
  have hsN : Go.Maps.size D ≤ 1000000 := by rw [hsz, hnl]; exact hN
  have HK1 := Lib.hid hk1
  have HD := Lib.hid (And.intro hD (And.intro hsz hL))
  have HDF := Lib.hid (And.intro hd (And.intro hkv hN))
  have HOW := Lib.hid hown
  have hmlt := hown.lt
  clear HC h1 hk1 hD hsz hL hd hkv hN hown
  go_wp2_with (at_range; refine wpList_range_own _ rfl _ 89 rfl 3 3 mi_keyed Try.underlying89 _ mb N D rfl HOW.out ?_; intro w2 hrg2 hg2 hs2)
  go_frame
  obtain ⟨r, hr⟩ : ∃ r, w1.heap.size = r := ⟨_, rfl⟩
  obtain ⟨base, hbs⟩ : ∃ b, w2.heap.size = b := ⟨_, rfl⟩
  rw [hr] at hrg2 hs2 hmlt ⊢
  have HS0 : Hid (SupI w1 w2 mb r N D K base (Go.Maps.size D) (.slice none 0 0) (Go.Maps.has D) []) := by
    refine ⟨hrg2, World.ownsRow_nil _ _ _ _, (keeps_grown hg2).mono (fun _ _ h => by cases h), fun _ => rfl, fun z hz => (by cases hz), fun x z hx hl => ?_, by simp, ⟨by omega, by omega, by omega⟩, fun kl h => h⟩
    have := (HD.out.1 x).1
    rw [hx] at this
    rw [this] at hl
    cases hl
  clear hrg2 hg2
  go_loopg [4] (Go.Maps.size D) (fun g ov wx => ∃ left l, Hid (SupI w1 wx mb r N D K base g ov left l))
  case atStart => exact ⟨_, _, HS0⟩
  case round =>
    clear HS0
    obtain ⟨left, l, HI⟩ := hrel
    go_wp2_with (at_next; refine wpList_next_ranges_ii _ rfl _ rfl 3 3 .i64 .i64 mi_keyed Try.underlying3 Try.underlying3 mb r N _ _ _ rfl HI.out.rg ?_ ?_)
    · intro hc0 hl0
      have hmem : ∀ z, z ∈ l ↔ ∃ x ∈ Lk, ∃ lo hi, getN st.L st.n x = some (z, lo, hi) := fun z => by
        constructor
        · intro hz
          obtain ⟨x, hx⟩ := HI.out.from_ z hz
          refine ⟨x, ?_, HDF.out.2.1 x z hx⟩
          have := HD.out.2.2 x
          rw [hx] at this
          exact of_decide_eq_true this.symm
        · rintro ⟨x, hx, lo, hi, hg⟩
          have h1 := HD.out.2.2 x
          rw [decide_eq_true hx] at h1
          obtain ⟨v, hv⟩ := Option.isSome_iff_exists.1 h1
          obtain ⟨lo', hi', hg'⟩ := HDF.out.2.1 x v hv
          rw [hg] at hg'
          simp only [Option.some.injEq, Prod.mk.injEq] at hg'
          rw [hg'.1]
          exact HI.out.all x v hv (hl0 _)
      have hll : l.length ≤ Lk.length := by have h1 := HI.out.cnt; have h2 := HD.out.2.1; omega
      have hl6 : l.length ≤ 1000000 := by have h1 := HI.out.cnt; omega
      have HF := Lib.hid (And.intro hmem (And.intro hll hl6))
      have HKW := Lib.hid (HK1.out.trans HI.out.kp)
      by_cases hlz : l = []
      · have hov := HI.out.nil hlz
        subst hov
        have HP : Hid (Keeps (fun _ => False) W wr ∧ ReadsI wr (.slice none 0 0) (suppL l) ∧ Dfs st.L st.n [] f Lk ∧ (∀ z, z ∈ l ↔ ∃ x ∈ Lk, ∃ lo hi, getN st.L st.n x = some (z, lo, hi)) ∧ l.length ≤ Lk.length ∧ l.length ≤ 1000000) := by
          refine ⟨HKW.out, ?_, HDF.out.1, HF.out⟩
          have hs0 : suppL l = [] := List.eq_nil_of_length_eq_zero (by have := supp_len l; rw [hlz] at this ⊢; simpa using this)
          rw [hs0]
          exact ⟨none, 0, rfl, Nat.le_refl _, fun h => absurd h (by simp)⟩
        have HSN := Lib.hid (qsort_nil wr)
        have HCN := Lib.hid (qcompact_nil wr none 0)
        clear hmem hll hl6 HF HKW HI hlz hl0 hc0
        go_wp2_with fail
        refine HSN.out.mono ?_
        rintro e w' ⟨rfl, rfl⟩
        go_wp2_with fail
        refine HCN.out.mono ?_
        rintro e w' ⟨rfl, rfl⟩
        go_wp2_with fail
        go_ret
        exact ⟨_, l, Lk, rfl, HP⟩
      · obtain ⟨ao, cap, hv, hle, _, hno, hb⟩ := own_form HI.out.own
        have hlp : 0 < l.length := List.length_pos_iff.2 hlz
        obtain ⟨g, rfl⟩ : ∃ g, ao = some ⟨g, 0, none⟩ := by
          cases ao with
          | none => have := (hno rfl).1; omega
          | some a =>
            obtain ⟨q1, q2, _⟩ := hb a rfl
            obtain ⟨x, y, z⟩ := a
            simp only at q1 q2
            subst q1 q2
            exact ⟨x, rfl⟩
        have hgb := own_block HI.out.own g (by rw [hv]; rfl)
        have hgl := own_lt HI.out.own g (by rw [hv]; rfl)
        have hbig := HI.out.kp.size
        have hlt3 := HI.out.lt
        have hown := HI.out.own
        rw [hv] at hown
        have HSO := Lib.hid (qsort_spec (cap := cap) (holds_own hown) hgl hl6)
        subst hv
        have HGW : Hid (w1.heap.size ≤ g) := by show w1.heap.size ≤ g; omega
        clear hmem hll hown hb hno HI hlz hl0 hc0 hlt3 hbig
        go_wp2_with fail
        refine HSO.out.mono ?_
        rintro e w4 ⟨rfl, h4⟩
        obtain ⟨m, hm⟩ : ∃ m, (l.mergeSort fun x y => decide (x ≤ y)) = m := ⟨_, rfl⟩
        have hml : m.length = l.length := by rw [← hm]; simp
        have HH4 := h4.out.2.1
        rw [hm] at HH4
        have HCO0 := qcompact_spec (cap := cap) HH4 (by omega) (Nat.lt_of_lt_of_le hgl h4.out.1.size) (by omega)
        rw [hml] at HCO0
        have hsup : suppL l = Go.Lib.compactUpTo m.toArray l.length := by unfold suppL; rw [hm, hml]
        rw [← hsup] at HCO0
        have HCO := Lib.hid HCO0
        have HK4 := Lib.hid h4.out.1
        have HSU := Lib.hid hsup
        clear HSO h4 HH4 HCO0 hm hml hsup
        go_wp2_with fail
        refine HCO.out.mono ?_
        rintro e w5 ⟨rfl, h5⟩
        have hsl := supp_len l
        have HP : Hid (Keeps (fun _ => False) W w5 ∧ ReadsI w5 (.slice (some ⟨g, 0, none⟩) (suppL l).length cap) (suppL l) ∧ Dfs st.L st.n [] f Lk ∧ (∀ z, z ∈ l ↔ ∃ x ∈ Lk, ∃ lo hi, getN st.L st.n x = some (z, lo, hi)) ∧ l.length ≤ Lk.length ∧ l.length ≤ 1000000) := by
          have kk : Keeps (fun q => q = g) wr w5 := HK4.out.trans h5.out.1
          refine ⟨HKW.out.trans_new kk (fun q hq e => by have h1 := HGW.out; have h2 := HK1.out.size; omega), ?_, HDF.out.1, HF.out⟩
          refine ⟨_, cap, rfl, by omega, fun h0 => ⟨g, 0, rfl, Nat.lt_of_lt_of_le hgl kk.size, fun j x hj => ?_⟩⟩
          exact h5.out.2 j x hj
        clear HCO h5 HK4 HF HKW HSU HGW
        go_wp2_with fail
        go_ret
        exact ⟨_, l, Lk, rfl, HP⟩
    · intro x c w3 cnt3 hwx hwc hlx hat hrg3 hlt hg3 hs3 hen
      have hKx : K x = some c := by
        have h1 := HD.out.1 x
        have h2 := hat (.lit (.int .i64 0))
        rw [h1.2] at h2
        simp only [DataW.lit.injEq, Lit.int.injEq, true_and] at h2
        have h3 : (K x).isSome = true := by
          rw [← h1.1]
          exact HI.out.lh _ hlx
        obtain ⟨y, hy⟩ := Option.isSome_iff_exists.1 h3
        rw [hy] at h2 ⊢
        simp only [Option.getD_some] at h2
        rw [h2]
      have k3 : Keeps (fun q => q = r) wr w3 := (keeps_grown hg3).mono (fun q _ e => (Option.some.inj e).symm)
      have hlt3 := HI.out.lt
      have hobr : ∀ q, u4.ownBlock = some q → base ≤ q := fun q hq => own_block HI.out.own q hq
      have hown3 := ownsRow_keeps' HI.out.own k3 (fun q hq e => by have := hobr q hq; omega)
      have hcnt := HI.out.cnt
      have HIO := Lib.hid HI.out
      have HX := Lib.hid (And.intro hKx (And.intro hlx hlt))
      have HRG3 := Lib.hid hrg3
      have HK3 := Lib.hid k3
      have HS3 := Lib.hid hs3
      have HOW3 := Lib.hid hown3
      clear hat hwx hwc hrg3 hg3 k3 HI hlx hKx hs3 hown3
      go_wp2_with (at_builtin; refine wpList_append_own _ rfl _ _ 27 rfl base 3 i0 _ 1 8 Try.underlying27 hi0 hz0 hz1 hz2 rfl (by decide) _ _ _ rfl (HOW3.out.alloc _) ⟨w3.heap.size, 0, none⟩ 1 1 [.int .i64 c] rfl rfl (cells_new w3 _ _) (by intro u hu; simp only [List.mem_cons, List.not_mem_nil, or_false] at hu; subst hu; rfl) (by unfold maxLen; omega) (by omega) (by have := HK3.out.size; simp; omega) ?_)
      intro v2 w6 hown6 hgrow6 hnil6
      have HN : Hid (SupI w1 w6 mb r N D K base cnt3 v2 (fun z => left z && !z.sameKey (.int .i64 x)) (l ++ [c])) := by
        have hI := HIO.out
        have ka : Keeps (fun _ => False) w3 (w3.alloc (.cells #[.int .i64 c] 3)) := (Keeps.refl _ _).alloc _
        refine ⟨(HRG3.out.alloc _).kept hgrow6 (fun e => by have := hobr mb e.symm; omega) (fun e => by have := hobr r e.symm; omega), ?_, ?_, fun h => absurd h (by simp), fun z hz => ?_, fun x' z hx' hl' => ?_, ?_, ⟨hlt3.1, hlt3.2.1, ?_⟩, fun kl h => hI.lh kl ?_⟩
        · rw [List.map_append, List.length_append]; exact hown6
        · have kk : Keeps (fun q => q = r ∨ base ≤ q) wr w6 := ((HK3.out.mono (fun _ _ e => .inl e)).trans (ka.mono (fun _ _ x => x.elim))).trans ((keeps_grown hgrow6).mono (fun q _ e => .inr (hobr q e)))
          refine hI.kp.trans_new kk (fun q hq e => ?_)
          have hw1 : w1.heap.size = r := hr
          rcases e with e | e <;> omega
        · rcases List.mem_append.1 hz with h | h
          · exact hI.from_ z h
          · obtain rfl : z = c := by simpa using h
            exact ⟨x, HX.out.1⟩
        · rw [List.mem_append]
          cases hlf : left (.int .i64 x') with
          | false => exact .inl (hI.all x' z hx' hlf)
          | true =>
            rw [hlf, Bool.true_and, Bool.not_eq_false'] at hl'
            have e := WideAt.sameKey_eq hl'
            cases e
            rw [HX.out.1] at hx'
            obtain rfl := Option.some.inj hx'
            exact .inr (by simp)
        · rw [List.length_append]
          have := HX.out.2.2
          simp only [List.length_cons, List.length_nil]
          omega
        · have h1 := HK3.out.size
          have h2 := ka.size
          have h3 := (keeps_grown hgrow6).size
          omega
        · rw [Bool.and_eq_true] at h
          exact h.1
      have HLT := HX.out.2.2
      clear hown6 hgrow6 hnil6 HIO HX HRG3 HK3 HOW3 hobr hcnt hlt3 HS3 hen
      go_wp2_with fail
      go_roundg cnt3
      case measure => omega
      case rel => exact ⟨_, _, HN⟩
end
end Go.Proofs.Ytfakjhcpaiaekaa
