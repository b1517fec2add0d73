/-
  The document's rows of truth values.
-/
import Derived.Test.YtloidoekmicloaaKit
import Derived.Test.YtloidoekmicloaaNodePlain
import Derived.Test.YtloidoekmicloaaNodeTab
import Derived.Deep.LoopGhost
set_option linter.unusedVariables false
set_option linter.unusedSimpArgs false
set_option linter.unnecessarySimpa false
namespace Go.Proofs.Ytloidoekmicloaa
open Go.ChangeShapes Go.WideShapes Go.ChangeAt Go.RowKit Go.Deep
def brow (R : Nat → Bool) (m : Nat) : Array Value := ((List.range m).map fun j => Value.bool (R j)).toArray
theorem brow_get (R : Nat → Bool) (m j : Nat) (h : j < m) : (brow R m)[j]? = some (.bool (R j)) := by simp [brow, h]
theorem brow_size (R : Nat → Bool) (m : Nat) : (brow R m).size = m := by simp [brow]
theorem brow_congr {R S : Nat → Bool} {m : Nat} (h : ∀ j, j < m → R j = S j) : brow R m = brow S m := by
  unfold brow
  congr 1
  refine List.map_congr_left fun j hj => ?_
  rw [h j (List.mem_range.1 hj)]
theorem brow_set (R : Nat → Bool) (m j : Nat) (x : Bool) (h : j < m) : (brow R m).setIfInBounds j (.bool x) = brow (fun i => if i = j then x else R i) m := by
  apply Array.ext_getElem?
  intro i
  by_cases hi : i < m
  · rw [brow_get _ _ _ hi]
    by_cases e : i = j
    · subst e
      rw [Array.getElem?_setIfInBounds_self_of_lt (by rw [brow_size]; exact hi), if_pos rfl]
    · rw [Array.getElem?_setIfInBounds_ne (by omega), brow_get _ _ _ hi, if_neg e]
  · rw [Array.getElem?_eq_none (by rw [Array.size_setIfInBounds, brow_size]; omega), Array.getElem?_eq_none (by rw [brow_size]; omega)]
theorem binfo : (Try.prog.info? 4).map (fun i => (i.zero, i.size, i.bytes)) = some (some (.bool false), 1, 1) := by kernel_rfl
theorem madeRow (N : Nat) : madeCells (Value.bool false).cells (N * 1) = brow (fun _ => false) N := by
  apply Array.ext_getElem?
  intro i
  rcases Nat.lt_or_ge i N with h | h
  · rw [brow_get _ _ _ h]
    have := madeCells_get #[Value.bool false] N i 0 (.bool false) h rfl
    show (madeCells #[Value.bool false] (N * 1))[i]? = _
    simpa using this
  · rw [Array.getElem?_eq_none (by simpa [size_madeCells] using h), Array.getElem?_eq_none (by rw [brow_size]; exact h)]
/-- A row at a block. -/
def RowAt (W : World) (b m : Nat) (R : Nat → Bool) : Prop := W.heap[b]? = some (.cells (brow R m) 4 (0, 0))
theorem RowAt.cell {W : World} {b m : Nat} {R : Nat → Bool} (h : RowAt W b m R) {j : Nat} (hj : j < m) : W.cell? ⟨b, j, none⟩ = some (.bool (R j)) := by
  rw [cell_of_heap h]; exact brow_get _ _ _ hj
theorem RowAt.keeps {W W' : World} {b m : Nat} {R : Nat → Bool} (h : RowAt W b m R) {S : Nat → Prop} (hk : Keeps S W W') (hs : ¬ S b) : RowAt W' b m R := (hk.block b (lt_of_heap h) hs).trans h
theorem RowAt.set {W : World} {b m : Nat} {R : Nat → Bool} (h : RowAt W b m R) {j : Nat} (hj : j < m) (x : Bool) : RowAt (W.setCell ⟨b, j, none⟩ (.bool x)) b m (fun i => if i = j then x else R i) := by
  unfold RowAt at h ⊢
  rw [heap_set h, brow_set _ _ _ _ hj]
theorem RowAt.congr {W : World} {b m : Nat} {R S : Nat → Bool} (h : RowAt W b m R) (he : ∀ j, j < m → R j = S j) : RowAt W b m S := by
  unfold RowAt at h ⊢
  rw [h, brow_congr he]
/-- A row that was made. -/
def RowPost (m : Nat) (R : Nat → Bool) (W : World) (e : Ending) (W' : World) : Prop := ∃ b, e = .returned (.slice (some ⟨b, 0, none⟩) m m) ∧ Hid (W.heap.size ≤ b ∧ Keeps (fun _ => False) W W' ∧ RowAt W' b m R)
set_option maxRecDepth 100000
set_option maxHeartbeats 1600000
theorem row_spec (W : World) (k : Nat) (hk : k ≤ 6) (m : Nat) (hm : 2 ^ k = m) : Calls Try.prog 48 #[.int .i64 k] W (RowPost m (fun _ => false) W) := by
  obtain ⟨i0, hi0, hz0, hz1, hz2⟩ := info_parts binfo
  have hm64 : m ≤ 64 := by rw [← hm]; exact Nat.le_trans (Nat.pow_le_pow_right (by omega) hk) (by decide)
  have HPOW : Hid (∀ j, j < k → 2 ^ j * 2 = 2 ^ (j + 1) ∧ 2 ^ (j + 1) ≤ 64) := fun j hj => ⟨(Nat.pow_succ 2 j).symm, Nat.le_trans (Nat.pow_le_pow_right (by omega) (show j + 1 ≤ 6 by omega)) (by decide)⟩
  have HM := Lib.hid hm
  clear hm
  go_enter Try.func48, Try.ntmps48
  go_wp2_with fail
  go_loopg [3, 4] k (fun g s t wy => ∃ (j p : Nat), j ≤ k ∧ g = k - j ∧ s = .int .i64 p ∧ t = .int .i64 j ∧ Hid (2 ^ j = p) ∧ wy = W)
  case atStart => exact ⟨0, 1, Nat.zero_le _, rfl, rfl, rfl, Lib.hid (by decide), rfl⟩
  case round =>
    obtain ⟨j, p, hj, rfl, rfl, rfl, HP, rfl⟩ := hrel
    by_cases hlt : j < k
    · have hjI : (j : Int) < (k : Int) := by omega
      obtain ⟨q1, q2⟩ := HPOW.out j hlt
      rw [HP.out] at q1
      have hp : p * 2 ≤ 64 := by omega
      have HQ := Lib.hid q1
      clear q1 q2
      go_wp2_with fail
      go_roundg (k - (j + 1))
      case measure => omega
      case rel => exact ⟨j + 1, p * 2, by omega, rfl, by go_num, by go_num, HQ.out.symm, rfl⟩
    · have hjE : j = k := by omega
      have hjI : ¬ (j : Int) < (k : Int) := by omega
      have hpm : p = m := by rw [← HP.out, ← HM.out, hjE]
      subst hpm
      clear HP HM HPOW
      go_wp2_with (at_make; refine wpList_make_full _ rfl _ _ 35 rfl wr.heap.size 4 i0 _ 1 Try.underlying35 hi0 hz0 hz1 .i64 .i64 _ _ p rfl rfl rfl rfl (by rw [hz2]; omega) (by unfold maxLen; omega) (Nat.le_refl _) ?_)
      intro w1 hown hgrow
      have k1 : Keeps (fun _ => False) wr w1 := (keeps_grown hgrow).mono (fun _ _ h => by cases h)
      have hmade : RowAt w1 wr.heap.size p (fun _ => false) := by
        have e := block_of_made (z := #[Value.bool false]) (size := 1) (n := p) (by rw [Nat.mul_one]; exact hown)
        have e2 := madeRow p
        unfold RowAt
        rw [e]
        exact congrArg (fun c => some (Obj.cells c _ _)) e2
      have HK := Lib.hid k1
      have HD := Lib.hid hmade
      clear hown hgrow k1 hmade
      go_wp2_with fail
      go_ret
      exact ⟨_, rfl, Nat.le_refl _, HK.out, HD.out⟩
theorem all_row (W : World) (k : Nat) (hk : k ≤ 6) (m : Nat) (hm : 2 ^ k = m) (so : Bool) : Calls Try.prog 26 #[.int .i64 k, .bool so] W (RowPost m (fun _ => so) W) := by
  have hm64 : m ≤ 64 := by rw [← hm]; exact Nat.le_trans (Nat.pow_le_pow_right (by omega) hk) (by decide)
  have HC := Lib.hid (row_spec W k hk m hm)
  clear hm
  go_enter Try.func26, Try.ntmps26
  go_wp2_with fail
  refine HC.out.mono ?_
  rintro e wA ⟨b, rfl, hb⟩
  have HB := Lib.hid hb.out.1
  have HK := Lib.hid hb.out.2.1
  have HR := Lib.hid hb.out.2.2
  clear hb HC
  go_wp2_with fail
  go_loopg [11] m (fun g t wy => ∃ (j : Nat), j ≤ m ∧ g = m - j ∧ t = .int .i64 j ∧ Hid (Keeps (fun _ => False) W wy) ∧ Hid (RowAt wy b m (fun i => decide (i < j) && so)))
  case atStart => exact ⟨0, Nat.zero_le _, rfl, rfl, HK.out, HR.out.congr (fun j _ => by simp)⟩
  case round =>
    clear HK HR
    obtain ⟨j, hj, rfl, rfl, HK, HR⟩ := hrel
    by_cases hlt : j < m
    · have hjI : (j : Int) < (m : Int) := by omega
      have c := HR.out.cell hlt
      have fz := free_of_heap HR.out j
      have lb := lt_of_heap HR.out
      have HN : Hid (Keeps (fun _ => False) W (wr.setCell ⟨b, j, none⟩ (.bool so)) ∧ RowAt (wr.setCell ⟨b, j, none⟩ (.bool so)) b m (fun i => decide (i < j + 1) && so)) := by
        refine ⟨HK.out.setCell (fun h => by have := HB.out; simp only [] at h; omega) _, (HR.out.set hlt so).congr (fun i _ => ?_)⟩
        by_cases e : i = j
        · subst e; simp
        · rw [if_neg e]
          have : decide (i < j) = decide (i < j + 1) := by
            by_cases h : i < j
            · rw [decide_eq_true h, decide_eq_true (by omega)]
            · rw [decide_eq_false h, decide_eq_false (by omega)]
          rw [this]
      clear HK HR
      go_wp2_with fail
      go_roundg (m - (j + 1))
      case measure => omega
      case rel => exact ⟨j + 1, by omega, rfl, by go_num, HN.out.1, HN.out.2⟩
    · have hjE : j = m := by omega
      have hjI : ¬ (j : Int) < (m : Int) := by omega
      rw [hjE] at HR
      have HF := Lib.hid (HR.out.congr (S := fun _ => so) (fun i hi => by simp [hi]))
      clear HR
      go_wp2_with fail
      go_ret
      exact ⟨b, rfl, HB.out, HK.out, HF.out⟩
theorem ite_row (W : World) {bf bg bh m : Nat} (hm : m ≤ 64) {F G H : Nat → Bool} (hf : RowAt W bf m F) (hg : RowAt W bg m G) (hh : RowAt W bh m H) :
    Calls Try.prog 30 #[.slice (some ⟨bf, 0, none⟩) m m, .slice (some ⟨bg, 0, none⟩) m m, .slice (some ⟨bh, 0, none⟩) m m] W (RowPost m (fun i => if F i then G i else H i) W) := by
  obtain ⟨i0, hi0, hz0, hz1, hz2⟩ := info_parts binfo
  have HF := Lib.hid hf
  have HG := Lib.hid hg
  have HH := Lib.hid hh
  clear hf hg hh
  go_enter Try.func30, Try.ntmps30
  go_wp2_with (at_make; refine wpList_make_full _ rfl _ _ 35 rfl W.heap.size 4 i0 _ 1 Try.underlying35 hi0 hz0 hz1 .i64 .i64 _ _ m rfl rfl rfl rfl (by rw [hz2]; omega) (by unfold maxLen; omega) (Nat.le_refl _) ?_)
  intro w1 hown hgrow
  have k1 : Keeps (fun _ => False) W w1 := (keeps_grown hgrow).mono (fun _ _ h => by cases h)
  have hmade : RowAt w1 W.heap.size m (fun _ => false) := by
    have e := block_of_made (z := #[Value.bool false]) (size := 1) (n := m) (by rw [Nat.mul_one]; exact hown)
    have e2 := madeRow m
    unfold RowAt
    rw [e]
    exact congrArg (fun c => some (Obj.cells c _ _)) e2
  have HK := Lib.hid k1
  have HD := Lib.hid hmade
  clear hown hgrow k1 hmade
  go_wp2_with fail
  go_loopg [14] m (fun g t wy => ∃ (j : Nat), j ≤ m ∧ g = m - j ∧ t = .int .i64 j ∧ Hid (Keeps (fun _ => False) W wy) ∧ Hid (RowAt wy W.heap.size m (fun i => decide (i < j) && (if F i then G i else H i))))
  case atStart => exact ⟨0, Nat.zero_le _, rfl, rfl, HK.out, HD.out.congr (fun j _ => by simp)⟩
  case round =>
    clear HK HD
    obtain ⟨j, hj, rfl, rfl, HK, HR⟩ := hrel
    by_cases hlt : j < m
    · have hjI : (j : Int) < (m : Int) := by omega
      have c := HR.out.cell hlt
      have fz := free_of_heap HR.out j
      have lb := lt_of_heap HR.out
      have lf := lt_of_heap HF.out
      have lg := lt_of_heap HG.out
      have lh := lt_of_heap HH.out
      have hr := HK.out.size
      have qf := (HF.out.keeps HK.out (fun x => x)).cell hlt
      have qg := (HG.out.keeps HK.out (fun x => x)).cell hlt
      have qh := (HH.out.keeps HK.out (fun x => x)).cell hlt
      have nf : bf ≠ W.heap.size := by omega
      have ng : bg ≠ W.heap.size := by omega
      have nh : bh ≠ W.heap.size := by omega
      have HN : Hid (∀ x, x = (if F j then G j else H j) → ∀ w', w' = wr.setCell ⟨W.heap.size, j, none⟩ (.bool x) ∨ (∃ y, w' = (wr.setCell ⟨W.heap.size, j, none⟩ (.bool y)).setCell ⟨W.heap.size, j, none⟩ (.bool x)) → Keeps (fun _ => False) W w' ∧ RowAt w' W.heap.size m (fun i => decide (i < j + 1) && (if F i then G i else H i))) := fun x hx w' hw' => by
        have key : ∀ v : World, Keeps (fun _ => False) W v → (∃ Q, RowAt v W.heap.size m Q ∧ ∀ i, i < m → i ≠ j → Q i = (decide (i < j) && (if F i then G i else H i))) → Keeps (fun _ => False) W (v.setCell ⟨W.heap.size, j, none⟩ (.bool x)) ∧ RowAt (v.setCell ⟨W.heap.size, j, none⟩ (.bool x)) W.heap.size m (fun i => decide (i < j + 1) && (if F i then G i else H i)) := fun v hkv ⟨Q, hQ, hq⟩ => by
          refine ⟨hkv.setCell (fun h => by simp only [] at h; omega) _, (hQ.set hlt x).congr (fun i hi => ?_)⟩
          by_cases e : i = j
          · subst e; simp [hx]
          · rw [if_neg e, hq i hi e]
            have : decide (i < j) = decide (i < j + 1) := by
              by_cases h : i < j
              · rw [decide_eq_true h, decide_eq_true (by omega)]
              · rw [decide_eq_false h, decide_eq_false (by omega)]
            rw [this]
        rcases hw' with rfl | ⟨y, rfl⟩
        · exact key _ HK.out ⟨_, HR.out, fun _ _ _ => rfl⟩
        · refine key _ (HK.out.setCell (fun h => by simp only [] at h; omega) _) ⟨_, HR.out.set hlt y, fun i _ hne => by rw [if_neg hne]⟩
      clear HK HR
      cases hfj : F j with
      | false =>
        rw [hfj] at qf HN
        go_wp2_with fail
        go_roundg (m - (j + 1))
        case measure => omega
        case rel => exact ⟨j + 1, by omega, rfl, by go_num, (HN.out _ rfl _ (.inl rfl)).1, (HN.out _ rfl _ (.inl rfl)).2⟩
      | true =>
        rw [hfj] at qf HN
        go_wp2_with fail
        go_roundg (m - (j + 1))
        case measure => omega
        case rel => exact ⟨j + 1, by omega, rfl, by go_num, (HN.out _ rfl _ (.inr ⟨_, rfl⟩)).1, (HN.out _ rfl _ (.inr ⟨_, rfl⟩)).2⟩
    · have hjE : j = m := by omega
      have hjI : ¬ (j : Int) < (m : Int) := by omega
      rw [hjE] at HR
      have HX := Lib.hid (HR.out.congr (S := fun i => if F i then G i else H i) (fun i hi => by simp [hi]))
      clear HR
      go_wp2_with fail
      go_ret
      exact ⟨_, rfl, Nat.le_refl _, HK.out, HX.out⟩
end Go.Proofs.Ytloidoekmicloaa
