/-
  A row of the program's own that may begin behind its block's first cell: what is left of a queue; append to it, and what is behind its first element.
-/
import Derived.Test.YtckjgefpelnkoaaDoorKit2
set_option linter.unusedVariables false
set_option linter.unusedSimpArgs false
namespace Go.Proofs.YtckjgefpelnkoaaDoor
open Go.ChangeShapes Go.WideShapes Go.ChangeAt Go.RowKit Go.Deep

theorem heap_setCells (b : Nat) {t : TypeId} {fr : Nat × Nat} : ∀ (vs : List Value) (o : Nat) (w : World) (c : Array Value), w.heap[b]? = some (.cells c t fr) →
    ∃ c', (w.setCells b o vs).heap[b]? = some (.cells c' t fr) ∧ c'.size = c.size ∧ (∀ i, i < o ∨ o + vs.length ≤ i → c'[i]? = c[i]?) ∧ (o + vs.length ≤ c.size → ∀ j, j < vs.length → c'[o + j]? = vs[j]?)
  | [], o, w, c, h => ⟨c, h, rfl, fun _ _ => rfl, fun _ j hj => absurd hj (Nat.not_lt_zero _)⟩
  | v :: r, o, w, c, h => by
    obtain ⟨c', h1, h2, h3, h4⟩ := heap_setCells b r (o + 1) (w.setCell ⟨b, o, none⟩ v) (c.setIfInBounds o v) (heap_set h o v)
    refine ⟨c', h1, by rw [h2]; simp, fun i hi => ?_, fun hl j hj => ?_⟩
    · rw [h3 i (by simp only [List.length_cons] at hi; omega), Array.getElem?_setIfInBounds_ne (by simp only [List.length_cons] at hi; omega)]
    · simp only [List.length_cons] at hl hj
      cases j with
      | zero =>
        rw [Nat.add_zero, h3 o (.inl (by omega)), Array.getElem?_setIfInBounds_self_of_lt (by omega)]
        rfl
      | succ j =>
        have := h4 (by simp only [Array.size_setIfInBounds]; omega) j (by omega)
        rw [show o + (j + 1) = o + 1 + j from by omega, this]
        rfl

/-- A row that may begin behind its block's first cell. -/
def TailRow (w : World) (e : TypeId) (size : Nat) (v : Value) (n : Nat) (xs : List Value) : Prop :=
  xs.length = n * size ∧ ((v = .slice none 0 0 ∧ n = 0) ∨ ∃ g k cap cur, v = .slice (some ⟨g, k, none⟩) n cap ∧ w.heap[g]? = some (.cells cur e (0, 0)) ∧ n ≤ cap ∧ cap ≤ maxLen ∧ k + cap * size ≤ cur.size ∧ ∀ j u, xs[j]? = some u → cur[k + j]? = some u)
theorem TailRow.nil (w : World) (e : TypeId) (size : Nat) : TailRow w e size (.slice none 0 0) 0 [] := ⟨by simp, .inl ⟨rfl, rfl⟩⟩
theorem TailRow.of_own {w : World} {base e size : Nat} {v : Value} {n : Nat} {xs : List Value} (h : w.ownsRow base e size v n xs) : TailRow w e size v n xs := by
  obtain ⟨h1, h2 | ⟨g, cap, cur, hv, hg, hh, hle, hm, hs, ht⟩⟩ := h
  · exact ⟨h1, .inl h2⟩
  · refine ⟨h1, .inr ⟨g, 0, cap, cur, hv, hh, hle, hm, by omega, fun j u hu => ?_⟩⟩
    rw [Nat.zero_add, ← hu, ← ht, List.getElem?_take_of_lt, Array.getElem?_toList]
    rcases Nat.lt_or_ge j (n * size) with h | h
    · exact h
    · rw [List.getElem?_eq_none (by omega)] at hu; cases hu
theorem TailRow.keeps {w w' : World} {e size : Nat} {v : Value} {n : Nat} {xs : List Value} {S : Nat → Prop} (h : TailRow w e size v n xs) (hk : Keeps S w w') (hs : ∀ k, v.ownBlock = some k → ¬ S k) : TailRow w' e size v n xs := by
  obtain ⟨h1, h2 | ⟨g, k, cap, cur, hv, hh, r⟩⟩ := h
  · exact ⟨h1, .inl h2⟩
  · exact ⟨h1, .inr ⟨g, k, cap, cur, hv, (hk.block g (lt_of_heap hh) (hs g (by rw [hv]; rfl))).trans hh, r⟩⟩
theorem TailRow.lt {w : World} {e size : Nat} {v : Value} {n : Nat} {xs : List Value} (h : TailRow w e size v n xs) : ∀ k, v.ownBlock = some k → ∃ cur, w.heap[k]? = some (.cells cur e (0, 0)) := by
  intro k hk
  obtain ⟨_, ⟨rfl, _⟩ | ⟨g, k', cap, cur, rfl, hh, _⟩⟩ := h
  · cases hk
  · simp only [Value.ownBlock, Option.some.injEq] at hk; subst hk; exact ⟨cur, hh⟩
theorem TailRow.type {w : World} {e size : Nat} {v : Value} {n : Nat} {xs : List Value} (h : TailRow w e size v n xs) {k : Nat} {c : Array Value} {t : TypeId} {fr : Nat × Nat} (ht : w.heap[k]? = some (.cells c t fr)) (hne : t ≠ e) : v.ownBlock ≠ some k := fun hk => by
  obtain ⟨cur, hc⟩ := h.lt k hk
  rw [hc] at ht
  simp only [Option.some.injEq, Obj.cells.injEq] at ht
  exact hne ht.2.1.symm
/-- Its shape, and its cells. -/
theorem TailRow.form {w : World} {e size : Nat} {v : Value} {n : Nat} {xs : List Value} (h : TailRow w e size v n xs) :
    ∃ ao cap, v = .slice ao n cap ∧ n ≤ cap ∧ cap ≤ maxLen ∧ (ao = none → n = 0 ∧ cap = 0) ∧ (0 < n → ∃ g k, ao = some ⟨g, k, none⟩ ∧ g < w.heap.size ∧ ∀ (j : Nat) (u : Value), xs[j]? = some u → w.cell? ⟨g, k + j, none⟩ = some u) := by
  obtain ⟨hl, ⟨rfl, rfl⟩ | ⟨g, k, cap, cur, rfl, hh, hle, hm, hs, ht⟩⟩ := h
  · exact ⟨none, 0, rfl, Nat.le_refl _, by unfold maxLen; omega, fun _ => ⟨rfl, rfl⟩, fun h => absurd h (Nat.lt_irrefl _)⟩
  · exact ⟨_, cap, rfl, hle, hm, fun h => (by cases h), fun _ => ⟨g, k, rfl, lt_of_heap hh, fun j u hu => by rw [cell_of_heap hh]; exact ht j u hu⟩⟩
/-- What is behind the first element. -/
theorem TailRow.behind {w : World} {e size : Nat} {g k n cap : Nat} {x xs : List Value} (h : TailRow w e size (.slice (some ⟨g, k, none⟩) (n + 1) cap) (n + 1) (x ++ xs)) (hx : x.length = size) :
    TailRow w e size (.slice (some ⟨g, if cap = 1 then k else k + size, none⟩) n (cap - 1)) n xs := by
  obtain ⟨hl, ⟨hv, _⟩ | ⟨g', k', cap', cur, hv, hh, hle, hm, hs, ht⟩⟩ := h
  · cases hv
  · cases hv
    rw [List.length_append, hx, Nat.succ_mul] at hl
    refine ⟨by omega, .inr ⟨g, _, cap - 1, cur, rfl, hh, by omega, by omega, ?_, fun j u hu => ?_⟩⟩
    · obtain ⟨c, rfl⟩ : ∃ c, cap = c + 1 := ⟨cap - 1, by omega⟩
      rw [Nat.succ_mul] at hs
      split
      · obtain rfl : c = 0 := by omega
        omega
      · rw [Nat.add_sub_cancel]; omega
    · have := ht (size + j) u (by rw [List.getElem?_append_right (by omega), hx, Nat.add_sub_cancel_left]; exact hu)
      split
      · obtain rfl : n = 0 := by omega
        have h0 : xs = [] := List.eq_nil_of_length_eq_zero (by omega)
        subst h0
        cases hu
      · rw [Nat.add_assoc]; exact this
theorem run_append_tail {P : Program} (w : World) (t ty e : TypeId) (i : TypeInfo) (z : Value) (size bytes : Nat) (ht : P.underlying t = some (.slice e)) (hi : P.info? e = some i) (hz : i.zero = some z)
    (hsize : i.size = size) (hby : i.bytes = bytes) (hzs : z.cells.size = size) (hsz : 0 < size)
    (v : Value) (n : Nat) (xs : List Value) (hown : TailRow w e size v n xs)
    (ad : Addr) (m c : Nat) (news : List Value) (hl : news.length = m * size) (hnews : ∀ j u, news[j]? = some u → w.cell? (ad.add j) = some u) (h1 : ∀ u ∈ news, u.oneCell' = true)
    (hm : 0 < m) (h63 : n + m ≤ maxLen) (hbytes : (n + m) * bytes ≤ 140737488355328) :
    ∃ ao' cap' w', (Builtin.append_ #[t, t] ty #[v, .slice (some ad) m c]).run P w = .ok (.slice ao' (n + m) cap') w' ∧ TailRow w' e size (.slice ao' (n + m) cap') (n + m) (xs ++ news) ∧ w.grownBy w' v.ownBlock ∧
      (∀ k, (Value.slice ao' (n + m) cap').ownBlock = some k → v.ownBlock = some k ∨ w.heap.size ≤ k) := by
  have fin : ∀ v' w', (Builtin.append_ #[t, t] ty #[v, .slice (some ad) m c]).run P w = .ok v' w' → w'.ownsRow w.heap.size e size v' (n + m) (xs ++ news) → w.grownBy w' none → ∃ ao' cap' w', (Builtin.append_ #[t, t] ty #[v, .slice (some ad) m c]).run P w = .ok (.slice ao' (n + m) cap') w' ∧ TailRow w' e size (.slice ao' (n + m) cap') (n + m) (xs ++ news) ∧ w.grownBy w' v.ownBlock ∧
      (∀ k, (Value.slice ao' (n + m) cap').ownBlock = some k → v.ownBlock = some k ∨ w.heap.size ≤ k) := by
    intro v' w' hr h2 h3
    obtain ⟨ao', cap', rfl, _⟩ := own_form h2
    exact ⟨ao', cap', w', hr, TailRow.of_own h2, ⟨h3.os, h3.tape, h3.output, h3.size, fun k hk _ => h3.block k hk (by simp)⟩, fun k hk => .inr (own_block h2 k hk)⟩
  obtain ⟨hlx, ⟨rfl, rfl⟩ | ⟨g, k, cap, cur, rfl, hh, hle, hmx, hs, hc⟩⟩ := hown
  · obtain rfl : xs = [] := List.eq_nil_of_length_eq_zero (by simpa using hlx)
    obtain ⟨v', w', hr, r1, r2, _⟩ := run_append_own (P := P) w w.heap.size t ty e i z size bytes ht hi hz hsize hby hzs hsz (.slice none 0 0) 0 [] (World.ownsRow_nil w _ e size) ad m c news hl hnews h1 h63 hbytes (Nat.le_refl _)
    exact fin v' w' hr r1 r2
  · by_cases hfit : n + m ≤ cap
    · subst hsize
      have hmul : (n + m) * i.size ≤ cap * i.size := Nat.mul_le_mul_right _ hfit
      rw [Nat.add_mul] at hmul
      have hr := run_append_room_cells (P := P) w t ty e i ht hi g k n cap ad m c news hl hnews h1 hfit
        (fun j hj => by rw [cell_of_heap hh, Array.getElem?_eq_getElem (by omega)]; rfl) (fun j hj => free_of_heap hh _)
      obtain ⟨c', q1, q2, q3, q4⟩ := heap_setCells g news (k + n * i.size) w cur hh
      refine ⟨_, cap, _, hr, ⟨by rw [List.length_append, hlx, hl, Nat.add_mul], .inr ⟨g, k, cap, c', rfl, q1, hfit, hmx, by omega, fun j u hu => ?_⟩⟩, ?_, fun k hk => .inl hk⟩
      · rcases Nat.lt_or_ge j (n * i.size) with hj | hj
        · rw [q3 _ (.inl (by omega))]
          rw [List.getElem?_append_left (by omega)] at hu
          exact hc j u hu
        · rw [List.getElem?_append_right (by omega), hlx] at hu
          have hj2 : j - n * i.size < news.length := by
            rcases Nat.lt_or_ge (j - n * i.size) news.length with h | h
            · exact h
            · rw [List.getElem?_eq_none h] at hu; cases hu
          have := q4 (by omega) (j - n * i.size) hj2
          rw [show k + n * i.size + (j - n * i.size) = k + j from by omega] at this
          rw [this]; exact hu
      · have kk : Keeps (fun x => x = g) w (w.setCells g (k + n * i.size) news) := Keeps.setCells (S := fun x => x = g) g (fun _ => rfl) news _ w (Keeps.refl _ _)
        exact ⟨kk.os, kk.tape, kk.output, kk.size, fun x hx hne => kk.block x hx (fun e => hne (by rw [e]; rfl))⟩
    · obtain ⟨v', w', hr, r1, r2⟩ := run_append_arg_grows (P := P) w t ty e i z size bytes ht hi hz hsize hby hzs hsz ⟨g, k, none⟩ n cap xs hlx (fun j u hu => by rw [add_plain, cell_of_heap hh]; exact hc j u hu) ad m c news hl hnews (by omega) h63 hbytes
      exact fin v' w' hr r1 r2
theorem step_append_tail {P : Program} {ops : Array Oper} {o : Oper} {a : Act} {w : World} {K : Act → World → Prop} {Q : Exit → Act → World → Prop} {E : Prop}
    (hg : o.guard = none) (s x : Operand) (t : TypeId) (hop : o.op = Op.call { callee := Callee.builtin Builtin.append, args := #[s, x], argTypes := #[t, t] })
    (e : TypeId) (i : TypeInfo) (z : Value) (size bytes : Nat) (ht : P.underlying t = some (.slice e)) (hi : P.info? e = some i) (hz : i.zero = some z)
    (hsize : i.size = size) (hby : i.bytes = bytes) (hzs : z.cells.size = size) (hsz : 0 < size)
    (v : Value) (n : Nat) (xs : List Value) (hs : a.eval s = v) (hown : TailRow w e size v n xs)
    (ad : Addr) (m c : Nat) (news : List Value) (hx : a.eval x = .slice (some ad) m c) (hl : news.length = m * size) (hnews : ∀ j u, news[j]? = some u → w.cell? (ad.add j) = some u) (h1 : ∀ u ∈ news, u.oneCell' = true)
    (hm : 0 < m) (h63 : n + m ≤ maxLen) (hbytes : (n + m) * bytes ≤ 140737488355328)
    (hK : ∀ ao' cap' w', TailRow w' e size (.slice ao' (n + m) cap') (n + m) (xs ++ news) → w.grownBy w' v.ownBlock → (∀ k, (Value.slice ao' (n + m) cap').ownBlock = some k → v.ownBlock = some k ∨ w.heap.size ≤ k) → K (a.put o.dst (.slice ao' (n + m) cap')) w') :
    if Region.wanted o (yielded ops a.tmps) = true then Oper.wp P o a w K Q else E := by
  have hw : Region.wanted o (yielded ops a.tmps) = true := by simp [Region.wanted, hg]
  rw [if_pos hw]
  obtain ⟨ao', cap', w', hr, r1, r2, r3⟩ := run_append_tail (P := P) w t o.type e i z size bytes ht hi hz hsize hby hzs hsz v n xs hown ad m c news hl hnews h1 hm h63 hbytes
  unfold Oper.wp
  simp [execOp, hop, resolve, invoke, builtin, hs, hx, hr, Result.andThen]
  exact hK ao' cap' w' r1 r2 r3
theorem wpList_append_tail {P : Program} (w : World) {ops : Array Oper} {rest : List Oper} {o : Oper} {a : Act} {Q : Exit → Act → World → Prop} (hgd : o.guard = none) (s x : Operand) (t : TypeId)
    (ho : o.op = .call { callee := .builtin .append, args := #[s, x], argTypes := #[t, t] })
    (e : TypeId) (i : TypeInfo) (z : Value) (size bytes : Nat) (ht : P.underlying t = some (.slice e)) (hi : P.info? e = some i) (hz : i.zero = some z)
    (hsize : i.size = size) (hby : i.bytes = bytes) (hzs : z.cells.size = size) (hsz : 0 < size)
    (v : Value) (n : Nat) (xs : List Value) (hs : a.eval s = v) (hown : TailRow w e size v n xs)
    (ad : Addr) (m c : Nat) (news : List Value) (hx : a.eval x = .slice (some ad) m c) (hl : news.length = m * size) (hnews : ∀ j u, news[j]? = some u → w.cell? (ad.add j) = some u) (h1 : ∀ u ∈ news, u.oneCell' = true)
    (hm : 0 < m) (h63 : n + m ≤ maxLen) (hbytes : (n + m) * bytes ≤ 140737488355328)
    (h : ∀ ao' cap' w', TailRow w' e size (.slice ao' (n + m) cap') (n + m) (xs ++ news) → w.grownBy w' v.ownBlock → (∀ k, (Value.slice ao' (n + m) cap').ownBlock = some k → v.ownBlock = some k ∨ w.heap.size ≤ k) → wpList P ops Q rest (a.put o.dst (.slice ao' (n + m) cap')) w') : wpList P ops Q (o :: rest) a w := by
  refine wpList_plain hgd fun K hK' => ?_
  obtain ⟨ao', cap', w', hr, r1, r2, r3⟩ := run_append_tail (P := P) w t o.type e i z size bytes ht hi hz hsize hby hzs hsz v n xs hown ad m c news hl hnews h1 hm h63 hbytes
  unfold Oper.wp
  simp [execOp, ho, resolve, invoke, builtin, hs, hx, hr, Result.andThen]
  exact hK' _ _ (h ao' cap' w' r1 r2 r3)
end Go.Proofs.YtckjgefpelnkoaaDoor
