/-
  The best order that is reached by changing neighbours, found anew: the rows that the law makes, and where it stands.
-/
import Derived.Test.YtipcgjigkipcpaaBestSpec
set_option linter.unusedVariables false
set_option linter.unusedSimpArgs false
set_option linter.unnecessarySimpa false
namespace Go.Proofs.Ytipcgjigkipcpaa
open Go.ChangeShapes Go.WideShapes Go.ChangeAt Go.RowKit Go.Deep NodePlain
theorem rowF_own {W : World} {F : Nat → Prop} {base : Nat} {v : Value} {l : List Int} {n : Nat} (h : W.ownsRow base 3 1 v n (l.map (Value.int .i64))) (hn : l.length = n) (hF : ∀ x, F x → x < base) : RowF W F v l := by
  obtain ⟨ao, cap, rfl, hle, _, hno, hc⟩ := own_form h
  refine ⟨⟨ao, cap, by rw [hn], by omega, fun h0 => ?_⟩, fun g off m c e h0 hg => ?_⟩
  · cases ao with
    | none => have := (hno rfl).1; omega
    | some b =>
      obtain ⟨q1, q2, q3, q4, q5⟩ := hc b rfl
      obtain ⟨b, o, sp⟩ := b
      simp only at q1 q2 q3 q4 q5
      subst q1 q2
      exact ⟨b, 0, rfl, q3, fun j x hj => by rw [Nat.zero_add]; exact q5 j _ (by rw [List.getElem?_map, hj]; rfl)⟩
  · simp only [Value.slice.injEq] at e
    obtain ⟨rfl, _⟩ := e
    have := (hc _ rfl).2.2.2.1
    have h2 := hF g hg
    simp only at this
    omega
/-- One value of a row, two neighbours changed. -/
def swV (i : Nat) (x : Int) : Int := if x = (i : Int) then (i : Int) + 1 else if x = (i : Int) + 1 then (i : Int) else x
theorem swapL_get {now : List Int} {i j : Nat} {x : Int} (h : now[j]? = some x) : (swapL now i)[j]? = some (swV i x) := by
  unfold swapL; rw [List.getElem?_map, h]; rfl
/-- A row of which so many values are changed. -/
def PartRow (W : World) (g : Nat) (now : List Int) (i j : Nat) : Prop := ∃ c : Array Value, W.heap[g]? = some (.cells c 3 (0, 0)) ∧ ∀ (y : Nat) (x : Int), now[y]? = some x → c[y]? = some (.int .i64 (if y < j then swV i x else x))
section
variable {w W W' : World} {g : Nat} {now : List Int} {i j : Nat} {x : Int}
theorem PartRow.read (h : PartRow W g now i j) (hx : now[j]? = some x) : W.cell? ⟨g, j, none⟩ = some (.int .i64 x) ∧ W.frozen? ⟨g, j, none⟩ = false ∧ g < W.heap.size := by
  obtain ⟨c, h1, h2⟩ := h
  refine ⟨?_, free_of_heap h1 j, lt_of_heap h1⟩
  rw [cell_of_heap h1, h2 j x hx, if_neg (Nat.lt_irrefl _)]
theorem PartRow.put (h : PartRow W g now i j) (hx : now[j]? = some x) {z : Int} (hz : swV i x = z) : PartRow (W.setCell ⟨g, j, none⟩ (.int .i64 z)) g now i (j + 1) := by
  obtain ⟨c, h1, h2⟩ := h
  refine ⟨_, heap_set h1 j _, fun y u hu => ?_⟩
  by_cases e : y = j
  · subst e
    rw [hx] at hu
    simp only [Option.some.injEq] at hu
    subst hu
    have hlt : y < c.size := by
      rcases Nat.lt_or_ge y c.size with q | q
      · exact q
      · have := h2 y x hx
        rw [Array.getElem?_eq_none q] at this; cases this
    rw [Array.getElem?_setIfInBounds_self_of_lt hlt, if_pos (by omega), hz]
  · rw [Array.getElem?_setIfInBounds_ne (by omega), h2 y u hu]
    by_cases q : y < j
    · rw [if_pos q, if_pos (by omega)]
    · rw [if_neg q, if_neg (by omega)]
theorem PartRow.stay (h : PartRow W g now i j) (hx : now[j]? = some x) (hz : swV i x = x) : PartRow W g now i (j + 1) := by
  obtain ⟨c, h1, h2⟩ := h
  refine ⟨c, h1, fun y u hu => ?_⟩
  rw [h2 y u hu]
  by_cases e : y = j
  · subst e
    rw [hx] at hu
    simp only [Option.some.injEq] at hu
    subst hu
    rw [if_neg (Nat.lt_irrefl _), if_pos (by omega), hz]
  · by_cases q : y < j
    · rw [if_pos q, if_pos (by omega)]
    · rw [if_neg q, if_neg (by omega)]
theorem PartRow.row (h : PartRow W g now i j) {n cap : Nat} (hn : now.length = n) (hj : n = j) (hc : n ≤ cap) {F : Nat → Prop} (hF : ¬ F g) : RowF W F (.slice (some ⟨g, 0, none⟩) n cap) (swapL now i) := by
  obtain ⟨c, h1, h2⟩ := h
  have hl : (swapL now i).length = n := by unfold swapL; rw [List.length_map]; exact hn
  refine ⟨⟨some ⟨g, 0, none⟩, cap, by rw [hl], by omega, fun h0 => ⟨g, 0, rfl, lt_of_heap h1, fun y u hu => ?_⟩⟩, fun g' off m c e h0 hg => ?_⟩
  · rw [Nat.zero_add, cell_of_heap h1]
    unfold swapL at hu
    rw [List.getElem?_map] at hu
    obtain ⟨x, hx, rfl⟩ := Option.map_eq_some_iff.1 hu
    have hy : y < now.length := by
      rcases Nat.lt_or_ge y now.length with q | q
      · exact q
      · rw [List.getElem?_eq_none q] at hx; cases hx
    rw [h2 y x hx, if_pos (by omega)]
    rfl
  · simp only [Value.slice.injEq, Option.some.injEq, Addr.mk.injEq] at e
    obtain ⟨⟨rfl, _⟩, _⟩ := e
    exact hF hg
theorem PartRow.start {base n cap : Nat} (h : W.ownsRow base 3 1 (.slice (some ⟨g, 0, none⟩) n cap) n (now.map (Value.int .i64))) : PartRow W g now i 0 := by
  obtain ⟨hl, ⟨e, _⟩ | ⟨g', cap', cur, hv, hg, hh, hle, hm, hs, ht⟩⟩ := h
  · cases e
  · simp only [Value.slice.injEq, Option.some.injEq, Addr.mk.injEq] at hv
    obtain ⟨⟨rfl, _⟩, _, rfl⟩ := hv
    refine ⟨cur, hh, fun y x hx => ?_⟩
    rw [if_neg (by omega)]
    have hu : (now.map (Value.int .i64))[y]? = some (.int .i64 x) := by rw [List.getElem?_map, hx]; rfl
    rw [← hu, ← ht, List.getElem?_take_of_lt, Array.getElem?_toList]
    rcases Nat.lt_or_ge y (n * 1) with q | q
    · exact q
    · rw [List.getElem?_eq_none (by omega)] at hu; cases hu
theorem PartRow.keeps (h : PartRow W g now i j) {S : Nat → Prop} (hk : Keeps S W W') (hs : ¬ S g) : PartRow W' g now i j := by
  obtain ⟨c, h1, h2⟩ := h
  exact ⟨c, (hk.block g (lt_of_heap h1) hs).trans h1, h2⟩
end
theorem best_ordT (σ : List Int → Nat) {k : Nat} (hk : k ≤ 61) {b : List Int × Nat} (hb : b.1 = idL k) (r : Nat) : ordB k (bestB σ k b r).1 = true := by
  rcases Nat.eq_zero_or_pos k with rfl | h
  · have e : ∀ r, bestB σ 0 b r = b := fun r => by
      induction r with
      | zero => rfl
      | succ r ih => show stepB σ 0 (bestB σ 0 b r) = b; rw [ih]; rfl
    rw [e, hb]; exact idL_ord hk
  · exact best_ord σ h (b := b) (by rw [hb]; exact idL_ord hk) r
theorem swV_i (i : Nat) : swV i (i : Int) = (i : Int) + 1 := by unfold swV; rw [if_pos rfl]
theorem swV_j (i : Nat) : swV i ((i : Int) + 1) = (i : Int) := by unfold swV; rw [if_neg (by omega), if_pos rfl]
theorem swV_o {i : Nat} {x : Int} (h1 : ¬ x = (i : Int)) (h2 : ¬ x = (i : Int) + 1) : swV i x = x := by unfold swV; rw [if_neg h1, if_neg h2]
section
variable {w W W' : World} {k : Nat} {s : PlS} {u c : Nat} {d lb : Nat} {st : St} {kc : Nat} {calls : Int} {F : Nat → Prop}
/-- Where the law stands: the maker, f, three rows. -/
structure LwS (w W : World) (k : Nat) (s : PlS) (u c : Nat) (d lb : Nat) (f : Int) (E : (Nat → Bool) → Bool) (v : Value) (l : List Int) (v2 : Value) (l2 : List Int) (v3 : Value) (l3 : List Int) (st : St) (kc : Nat) (calls : Int) (F : Nat → Prop) : Prop where
  b : BsS w W k s u c d lb f E v l st kc calls F
  r2 : RowF W F v2 l2
  r3 : RowF W F v3 l3
def LwE (w W : World) (k : Nat) (s : PlS) (u c : Nat) (d lb : Nat) (f : Int) (E : (Nat → Bool) → Bool) (v : Value) (l : List Int) (v2 : Value) (l2 : List Int) (v3 : Value) (l3 : List Int) : Prop := ∃ st kc calls F, LwS w W k s u c d lb f E v l v2 l2 v3 l3 st kc calls F
theorem LwS.quiet {f : Int} {E : (Nat → Bool) → Bool} {v v2 v3 : Value} {l l2 l3 : List Int} (h : LwS w W k s u c d lb f E v l v2 l2 v3 l3 st kc calls F) (hk : Keeps (fun _ => False) W W') : LwS w W' k s u c d lb f E v l v2 l2 v3 l3 st kc calls F := ⟨h.b.quiet hk, h.r2.quiet hk, h.r3.quiet hk⟩
set_option maxRecDepth 100000
set_option maxHeartbeats 1600000
theorem best_no (h : MkS w W k s u c d lb st kc calls F) (hu : u ≤ 900000) (hk6 : k ≤ 6) : Calls Try.prog 47 #[.pointer (some ⟨d, 0, none⟩), .int .i64 (-1), .int .i64 3] W fun e W' => e = .returned (.tuple #[.slice none 0 0, .int .i64 0]) ∧ W = W' := by
  have hn := h.n
  have HIS : Hid (Calls Try.prog 63 #[.pointer (some ⟨d, 0, none⟩), .int .i64 (-1)] W fun e w' => e = .returned (.bool false) ∧ W = w') := (bis_spec h.bd (by omega) (-1) (by omega)).mono fun e w' hh => ⟨by
    have : isN st.n (-1) = false := by
      cases e : isN st.n (-1) with
      | false => rfl
      | true => have := (isN_iff.1 e).1; omega
    rw [hh.1, this], hh.2⟩
  clear h hn
  go_enter Try.func47, Try.ntmps47
  go_wp2_with fail
  refine HIS.out.mono ?_
  rintro e w' ⟨rfl, rfl⟩
  clear HIS
  go_wp2_with fail
  go_ret2
  exact ⟨rfl, rfl⟩
end
end Go.Proofs.Ytipcgjigkipcpaa
