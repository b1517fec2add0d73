/-
  Orders: what undoes one, one behind another, all as it is, and two neighbours changed.
-/
import Derived.Test.YtipcgjigkipcpaaOrdRight
import Derived.Test.YtipcgjigkipcpaaNodeTab
set_option linter.unusedVariables false
set_option linter.unusedSimpArgs false
set_option linter.unnecessarySimpa false
namespace Go.Proofs.Ytipcgjigkipcpaa
open Go.ChangeShapes Go.WideShapes Go.ChangeAt Go.RowKit Go.Deep
def irow (F : Nat → Int) (m : Nat) : Array Value := ((List.range m).map fun j => Value.int .i64 (F j)).toArray
theorem irow_get (F : Nat → Int) (m j : Nat) (h : j < m) : (irow F m)[j]? = some (.int .i64 (F j)) := by simp [irow, h]
theorem irow_size (F : Nat → Int) (m : Nat) : (irow F m).size = m := by simp [irow]
theorem irow_congr {F G : Nat → Int} {m : Nat} (h : ∀ j, j < m → F j = G j) : irow F m = irow G m := by
  unfold irow
  congr 1
  refine List.map_congr_left fun j hj => ?_
  rw [h j (List.mem_range.1 hj)]
theorem irow_set (F : Nat → Int) (m j : Nat) (x : Int) (h : j < m) : (irow F m).setIfInBounds j (.int .i64 x) = irow (fun i => if i = j then x else F i) m := by
  apply Array.ext_getElem?
  intro i
  by_cases hi : i < m
  · rw [irow_get _ _ _ hi]
    by_cases e : i = j
    · subst e
      rw [Array.getElem?_setIfInBounds_self_of_lt (by rw [irow_size]; exact hi), if_pos rfl]
    · rw [Array.getElem?_setIfInBounds_ne (by omega), irow_get _ _ _ hi, if_neg e]
  · rw [Array.getElem?_eq_none (by rw [Array.size_setIfInBounds, irow_size]; omega), Array.getElem?_eq_none (by rw [irow_size]; omega)]
theorem iinfo : (Try.prog.info? 3).map (fun i => (i.zero, i.size, i.bytes)) = some (some (.int .i64 0), 1, 8) := by kernel_rfl
theorem imade (N : Nat) : madeCells (Value.int .i64 0).cells (N * 1) = irow (fun _ => 0) N := by
  apply Array.ext_getElem?
  intro i
  rcases Nat.lt_or_ge i N with h | h
  · rw [irow_get _ _ _ h]
    have := madeCells_get #[Value.int .i64 0] N i 0 (.int .i64 0) h rfl
    show (madeCells #[Value.int .i64 0] (N * 1))[i]? = _
    simpa using this
  · rw [Array.getElem?_eq_none (by simpa [size_madeCells] using h), Array.getElem?_eq_none (by rw [irow_size]; exact h)]
/-- A row of numbers at a block. -/
def IRow (W : World) (b m : Nat) (F : Nat → Int) : Prop := W.heap[b]? = some (.cells (irow F m) 3 (0, 0))
section
variable {W W' : World} {b m : Nat} {F G : Nat → Int}
theorem IRow.cell (h : IRow W b m F) {j : Nat} (hj : j < m) : W.cell? ⟨b, j, none⟩ = some (.int .i64 (F j)) := by
  rw [cell_of_heap h]; exact irow_get _ _ _ hj
theorem IRow.keeps (h : IRow W b m F) {S : Nat → Prop} (hk : Keeps S W W') (hs : ¬ S b) : IRow W' b m F := (hk.block b (lt_of_heap h) hs).trans h
theorem IRow.set (h : IRow W b m F) {j : Nat} (hj : j < m) (x : Int) : IRow (W.setCell ⟨b, j, none⟩ (.int .i64 x)) b m (fun i => if i = j then x else F i) := by
  unfold IRow at h ⊢
  rw [heap_set h, irow_set _ _ _ _ hj]
theorem IRow.congr (h : IRow W b m F) (he : ∀ j, j < m → F j = G j) : IRow W b m G := by
  unfold IRow at h ⊢
  rw [h, irow_congr he]
theorem IRow.reads (h : IRow W b m F) : ReadsI W (.slice (some ⟨b, 0, none⟩) m m) ((List.range m).map F) := by
  refine ⟨some ⟨b, 0, none⟩, m, by simp, by simp, fun _ => ⟨b, 0, rfl, lt_of_heap h, fun j x hj => ?_⟩⟩
  rw [List.getElem?_map] at hj
  rcases Nat.lt_or_ge j m with h1 | h1
  · rw [List.getElem?_range h1] at hj
    simp only [Option.map_some, Option.some.injEq] at hj
    rw [Nat.zero_add, h.cell h1, hj]
  · rw [List.getElem?_eq_none (by simpa using h1)] at hj; cases hj
end
/-- A row that was made. -/
def IPost (m : Nat) (F : Nat → Int) (W : World) (e : Ending) (W' : World) : Prop := ∃ b, e = .returned (.slice (some ⟨b, 0, none⟩) m m) ∧ Hid (W.heap.size ≤ b ∧ Keeps (fun _ => False) W W' ∧ IRow W' b m F)
/-- What undoes an order. -/
def Undoes (l : List Int) (F : Nat → Int) (i : Nat) : Prop := ∀ (j v : Nat), j < i → l[j]? = some (v : Int) → F v = j
theorem Undoes.step {n : Nat} {l : List Int} {F : Nat → Int} {i v : Nat} (h : Undoes l F i) (ho : ordB n l = true) (hi : l[i]? = some (v : Int)) : Undoes l (fun x => if x = v then (i : Int) else F x) (i + 1) := fun j x hj hx => by
  show (if x = v then (i : Int) else F x) = j
  by_cases e : x = v
  · subst e
    rw [if_pos rfl, nodup_get (ordB_iff.1 ho).2.2.2.2 hx hi]
  · rw [if_neg e]
    refine h j x ?_ hx
    rcases Nat.lt_or_ge j i with h1 | h1
    · exact h1
    · obtain rfl : j = i := by omega
      rw [hi] at hx
      simp only [Option.some.injEq] at hx
      omega
set_option maxRecDepth 100000
set_option maxHeartbeats 1600000
theorem back_no {W : World} {v : Value} {l : List Int} {n : Nat} (h : ReadsI W v l) (hl : l.length = n) (hn : n ≤ 1000) (ho : ordB n l = false) :
    Calls Try.prog 26 #[v] W fun e W' => e = .returned (.slice none 0 0) ∧ W = W' := by
  have HC0 := oright_spec (vars := (n : Int)) (by omega) (by omega) h (by omega)
  rw [ho] at HC0
  obtain ⟨ao, cap, rfl, hcap, hr⟩ := h
  rw [hl] at *
  have HC := Lib.hid HC0
  clear hr ho HC0
  go_enter Try.func26, Try.ntmps26
  go_wp2_with fail
  refine HC.out.mono ?_
  rintro e w' ⟨rfl, rfl⟩
  go_wp2_with fail
  go_ret
  exact ⟨rfl, rfl⟩
theorem back_yes {W : World} {v : Value} {l : List Int} {n : Nat} (h : ReadsI W v l) (hl : l.length = n) (hn : n ≤ 1000) (ho : ordB n l = true) :
    Calls Try.prog 26 #[v] W fun e W' => ∃ F, Hid (Undoes l F n) ∧ IPost n F W e W' := by
  obtain ⟨i0, hi0, hz0, hz1, hz2⟩ := info_parts iinfo
  have HC0 := oright_spec (vars := (n : Int)) (by omega) (by omega) h (by omega)
  rw [ho] at HC0
  obtain ⟨ao, cap, rfl, hcap, hr⟩ := h
  rw [hl] at *
  have HC := Lib.hid HC0
  have HR := Lib.hid hr
  have HO := Lib.hid ho
  have HL := Lib.hid hl
  have hn61 : n ≤ 61 := by have := (ordB_iff.1 ho).2.1; omega
  clear hr ho hl HC0
  go_enter Try.func26, Try.ntmps26
  go_wp2_with fail
  refine HC.out.mono ?_
  rintro e w' ⟨rfl, rfl⟩
  clear HC
  go_wp2_with (at_make; refine wpList_make_full _ rfl _ _ 28 rfl W.heap.size 3 i0 _ 1 Try.underlying28 hi0 hz0 hz1 .i64 .i64 _ _ n rfl rfl rfl rfl (by rw [hz2]; omega) (by unfold maxLen; omega) (Nat.le_refl _) ?_)
  intro w1 hown hgrow
  have k1 : Keeps (fun _ => False) W w1 := (keeps_grown hgrow).mono (fun _ _ h => by cases h)
  have hmade : IRow w1 W.heap.size n (fun _ => 0) := by
    have e := block_of_made (z := #[Value.int .i64 0]) (size := 1) (n := n) (by rw [Nat.mul_one]; exact hown)
    have e2 := imade n
    unfold IRow
    rw [e]
    exact congrArg (fun c => some (Obj.cells c _ _)) e2
  have HK := Lib.hid k1
  have HD := Lib.hid hmade
  clear hown hgrow k1 hmade
  go_wp2_with fail
  go_loopg [16] n (fun g t wy => ∃ (i : Nat) (F : Nat → Int), i ≤ n ∧ g = n - i ∧ t = .int .i64 i ∧ Hid (Keeps (fun _ => False) W wy) ∧ Hid (IRow wy W.heap.size n F) ∧ Hid (Undoes l F i))
  case atStart => exact ⟨0, _, Nat.zero_le _, rfl, rfl, HK.out, HD.out, fun j _ hj => absurd hj (Nat.not_lt_zero _)⟩
  case round =>
    clear HK HD
    obtain ⟨i, F, hi, rfl, rfl, HK, HD, HU⟩ := hrel
    by_cases hlt : i < n
    · have hiI : (i : Int) < (n : Int) := by omega
      obtain ⟨bb, off, rfl, hb, hc⟩ := HR.out (by omega)
      obtain ⟨k, hk, hx⟩ := ord_get HO.out hlt
      have c : wr.cell? ⟨bb, off + i, none⟩ = some (.int .i64 k) := (HK.out.cell (p := ⟨bb, off + i, none⟩) hb (fun x => x)).trans (hc i k hx)
      have HX := Lib.hid hx
      have hicap : i < cap := by omega
      have hkI : (k : Int) < (n : Int) := by omega
      have hk0 : (0 : Int) ≤ (k : Int) := by omega
      have c2 := HD.out.cell hk
      have fz := free_of_heap HD.out k
      have lb := lt_of_heap HD.out
      have HN : Hid (Keeps (fun _ => False) W (wr.setCell ⟨W.heap.size, k, none⟩ (.int .i64 i)) ∧ IRow (wr.setCell ⟨W.heap.size, k, none⟩ (.int .i64 i)) W.heap.size n (fun x => if x = k then (i : Int) else F x)) :=
        ⟨HK.out.setCell (fun h => absurd h (Nat.lt_irrefl _)) _, HD.out.set hk i⟩
      have HU2 := Lib.hid (HU.out.step HO.out HX.out)
      clear hc hx HK HD HU
      go_wp2_with fail
      go_roundg (n - (i + 1))
      case measure => omega
      case rel => exact ⟨i + 1, _, by omega, rfl, by go_num, HN.out.1, HN.out.2, HU2.out⟩
    · obtain rfl : i = n := by omega
      have hiI : ¬ (i : Int) < (i : Int) := by omega
      go_wp2_with fail
      go_ret
      exact ⟨F, HU, _, rfl, Nat.le_refl _, HK.out, HD.out⟩
end Go.Proofs.Ytipcgjigkipcpaa
