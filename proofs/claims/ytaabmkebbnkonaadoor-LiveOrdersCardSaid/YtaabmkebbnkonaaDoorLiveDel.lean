/-
  A rule taken out of a row: the library's Delete.
-/
import Derived.Test.YtaabmkebbnkonaaDoorLiveAsk
set_option linter.unusedVariables false
set_option linter.unusedSimpArgs false
set_option linter.unnecessarySimpa false
namespace Go.Proofs.YtaabmkebbnkonaaDoor
open Go.ChangeShapes Go.WideShapes Go.ChangeAt Go.RowKit Go.Deep SetPlain
theorem step_run_append {P : Program} {ops : Array Oper} {o : Oper} {a : Act} {w w' : World} {K : Act → World → Prop} {Q : Exit → Act → World → Prop} {E : Prop} {u xv v' : Value}
    (hg : o.guard = none) (s x : Operand) (t : TypeId) (hop : o.op = Op.call { callee := Callee.builtin Builtin.append, args := #[s, x], argTypes := #[t, t] })
    (hs : a.eval s = u) (hx : a.eval x = xv) (hrun : (Builtin.append_ #[t, t] o.type #[u, xv]).run P w = .ok v' w') (hK : K (a.put o.dst v') w') :
    if Region.wanted o (yielded ops a.tmps) = true then Oper.wp P o a w K Q else E := by
  have hw : Region.wanted o (yielded ops a.tmps) = true := by simp [Region.wanted, hg]
  rw [if_pos hw]
  unfold Oper.wp
  simp [execOp, hop, resolve, invoke, builtin, hs, hx, hrun, Result.andThen]
  exact hK
def zeroL : List Value := [.int .i64 0, .int .i64 0, .int .i64 0, .int .i64 0, .int .i64 0, .int .i64 0]
theorem zero_cells : (Builtin.zeroCells (Value.agg #[.int .i64 0, .int .i64 0, .int .i64 0, .int .i64 0, .int .i64 0, .int .i64 0]).cells 1).toList = zeroL := by
  unfold zeroL Builtin.zeroCells
  simp [Value.cells]
  rfl
/-- The row behind it. -/
theorem del_row {W : World} {g o cap m i : Nat} {rs : List Rl} {cur : Array Value} (hh : W.heap[g]? = some (.cells cur 29 (0, 0))) (hn : rs.length = m + 1) (hi : i ≤ m) (hle : m + 1 ≤ cap) (hmx : cap ≤ maxLen) (hsz : o + cap * 6 ≤ cur.size) (ht : ∀ j u, (rlCells rs)[j]? = some u → cur[o + j]? = some u) :
    TailRow ((W.setCells g (o + i * 6) (rlCells (rs.drop (i + 1)))).setCells g (o + m * 6) zeroL) 29 6 (.slice (some ⟨g, o, none⟩) m cap) (rs.eraseIdx i).length (rlCells (rs.eraseIdx i)) := by
  have hdl : (rlCells (rs.drop (i + 1))).length = (m - i) * 6 := by rw [rlCells_length, List.length_drop, hn]; omega
  obtain ⟨c1, q1, q2, q3, q4⟩ := heap_setCells g (rlCells (rs.drop (i + 1))) (o + i * 6) W cur hh
  obtain ⟨c2, p1, p2, p3, p4⟩ := heap_setCells g zeroL (o + m * 6) _ c1 q1
  have hel : (rs.eraseIdx i).length = m := by
    have h0 : i < rs.length := by omega
    have h1 := List.length_eraseIdx_of_lt h0
    omega
  have hall : rlCells rs = rlCells (rs.take i) ++ rlCells (rs.drop i) := by rw [← rlCells_append, List.take_append_drop]
  have herase : rlCells (rs.eraseIdx i) = rlCells (rs.take i) ++ rlCells (rs.drop (i + 1)) := (congrArg rlCells (List.eraseIdx_eq_take_drop_succ rs i)).trans (rlCells_append _ _)
  have htl : (rlCells (rs.take i)).length = i * 6 := by rw [rlCells_length, List.length_take, Nat.min_eq_left (by omega)]
  refine ⟨by rw [rlCells_length], .inr ⟨g, o, cap, c2, by rw [hel], p1, by omega, hmx, by rw [p2, q2]; exact hsz, fun j u hu => ?_⟩⟩
  rw [herase] at hu
  have hjm : j < m * 6 := by
    rcases Nat.lt_or_ge j (m * 6) with h | h
    · exact h
    · rw [List.getElem?_eq_none (by rw [List.length_append, htl, hdl]; have : i * 6 + (m - i) * 6 = m * 6 := by omega
                                    omega)] at hu
      cases hu
  rw [p3 _ (.inl (by omega))]
  rcases Nat.lt_or_ge j (i * 6) with hj | hj
  · rw [q3 _ (.inl (by omega))]
    rw [List.getElem?_append_left (by omega)] at hu
    refine ht j u ?_
    rw [hall, List.getElem?_append_left (by omega)]
    exact hu
  · rw [List.getElem?_append_right (by omega), htl] at hu
    have h1 : j - i * 6 < (rlCells (rs.drop (i + 1))).length := by
      rcases Nat.lt_or_ge (j - i * 6) (rlCells (rs.drop (i + 1))).length with h | h
      · exact h
      · rw [List.getElem?_eq_none h] at hu; cases hu
    have := q4 (by
      rw [hdl]
      have h2 : i * 6 + (m - i) * 6 = m * 6 := by omega
      have h3 : (m + 1) * 6 ≤ cap * 6 := Nat.mul_le_mul_right 6 hle
      omega) (j - i * 6) h1
    rw [show o + i * 6 + (j - i * 6) = o + j by omega] at this
    rw [this]
    exact hu
set_option maxRecDepth 100000
set_option maxHeartbeats 3200000
theorem del_far {W : World} {g o cap m i : Nat} {rs : List Rl} {cur : Array Value} (hh : W.heap[g]? = some (.cells cur 29 (0, 0))) (hn : rs.length = m + 1) (hi : i ≤ m) (hle : m + 1 ≤ cap) (hm : m ≤ 1000) (hsz : o + cap * 6 ≤ cur.size) (ht : ∀ j u, (rlCells rs)[j]? = some u → cur[o + j]? = some u) (hc : ¬ cap = i + 1) :
    Calls Tryd.prog 28 #[.slice (some ⟨g, o, none⟩) (m + 1) cap, .int .i64 i, .int .i64 ((i : Int) + 1)] W fun e W' => e = .returned (.slice (some ⟨g, o, none⟩) m cap) ∧ W' = (W.drew.setCells g (o + i * 6) (rlCells (rs.drop (i + 1)))).setCells g (o + m * 6) zeroL := by
  obtain ⟨i1, hi1, hy0, hy1, hy2⟩ := info_parts rlInfo
  have h1 : (0 : Int) ≤ (i : Int) := by omega
  have h2 : (i : Int) ≤ (i : Int) + 1 := by omega
  have h3 : (i : Int) + 1 ≤ (m : Int) + 1 := by omega
  have h4 : (m : Int) + 1 ≤ (cap : Int) := by omega
  have h5 : ((i : Int) == (i : Int) + 1) = false := beq_eq_false_iff_ne.2 (by omega)
  have h6 : decide ((i : Int) = (i : Int) + 1) = false := decide_eq_false (by omega)
  have h7 : (i : Int) ≤ (cap : Int) := by omega
  have h8 : (0 : Int) ≤ (i : Int) + 1 := by omega
  have hk : W.drew.heap[g]? = some (.cells cur 29 (0, 0)) := hh
  have hdl : (rlCells (rs.drop (i + 1))).length = (m - i) * i1.size := by rw [hy1, rlCells_length, List.length_drop, hn]; omega
  have hcell : ∀ x, x < cap * 6 → (W.drew.cell? ⟨g, o + x, none⟩).isSome = true := fun x hx => by
    rw [cell_of_heap hk, Array.getElem?_eq_getElem (by omega)]; rfl
  have hap : ∀ ty, (Builtin.append_ #[38, 38] ty #[.slice (some ⟨g, o, none⟩) i cap, .slice (some ⟨g, o + (i + 1) * 6, none⟩) (m - i) (cap - (i + 1))]).run Tryd.prog W.drew = .ok (.slice (some ⟨g, o, none⟩) (i + (m - i)) cap) (W.drew.setCells g (o + i * 6) (rlCells (rs.drop (i + 1)))) := fun ty => by
    have := run_append_room_cells (P := Tryd.prog) W.drew 38 ty 29 i1 Tryd.underlying38 hi1 g o i cap ⟨g, o + (i + 1) * 6, none⟩ (m - i) (cap - (i + 1)) (rlCells (rs.drop (i + 1))) hdl (fun j u hu => by
      have h0 : rlCells rs = rlCells (rs.take (i + 1)) ++ rlCells (rs.drop (i + 1)) := by rw [← rlCells_append, List.take_append_drop]
      have hl0 : (rlCells (rs.take (i + 1))).length = (i + 1) * 6 := by rw [rlCells_length, List.length_take, hn]; omega
      rw [add_plain, cell_of_heap hk]
      show cur[o + (i + 1) * 6 + j]? = some u
      rw [show o + (i + 1) * 6 + j = o + ((i + 1) * 6 + j) by omega]
      refine ht _ u ?_
      rw [h0, List.getElem?_append_right (by omega), hl0, show (i + 1) * 6 + j - (i + 1) * 6 = j by omega]
      exact hu) (rl_one _) (by omega) (fun j hj => by
      rw [hdl, hy1] at hj
      rw [hy1, show o + i * 6 + j = o + (i * 6 + j) by omega]
      refine hcell _ ?_
      have q1 : i * 6 + (m - i) * 6 = m * 6 := by omega
      have q2 : (m + 1) * 6 ≤ cap * 6 := Nat.mul_le_mul_right 6 hle
      omega) (fun j _ => free_of_heap hk _)
    rw [hy1] at this
    exact this
  obtain ⟨c1, q1, q2, _, _⟩ := heap_setCells g (rlCells (rs.drop (i + 1))) (o + i * 6) W.drew cur hk
  obtain ⟨w2, hw2⟩ : ∃ w2, W.drew.setCells g (o + i * 6) (rlCells (rs.drop (i + 1))) = w2 := ⟨_, rfl⟩
  rw [hw2] at q1
  have hcl : ∀ ty c, (Builtin.clear_ #[38] ty #[.slice (some ⟨g, o + m * 6, none⟩) 1 c]).run Tryd.prog w2 = .ok (.tuple #[]) (w2.setCells g (o + m * 6) zeroL) := fun ty c =>
    run_clear_any w2 _ _ ty _ zeroL Tryd.underlying38 Tryd.zeroValue29 g (o + m * 6) 1 c (by decide) zero_cells (by intro v hv; simp only [zeroL, List.mem_cons, List.not_mem_nil, or_false] at hv; rcases hv with rfl | rfl | rfl | rfl | rfl | rfl <;> rfl) (fun j hj => by
      have hj6 : j < 6 := hj
      rw [cell_of_heap q1, Array.getElem?_eq_getElem (by
        have q3 : (m + 1) * 6 ≤ cap * 6 := Nat.mul_le_mul_right 6 hle
        omega)]; rfl) (fun j _ => free_of_heap q1 _)
  simp only [hw2] at hap
  have HAP := Lib.hid hap
  have h9 : i + (m - i) = m := by omega
  have h10 : (m : Int) ≤ (m : Int) + 1 := by omega
  have h11 : (0 : Int) ≤ (m : Int) := by omega
  have h12 : ¬ cap = m := by omega
  have h13 : (m : Int) ≤ (cap : Int) := by omega
  have HW2 := Lib.hid hw2
  clear hap hcell hdl hk hh ht q1 q2 hw2 hsz hn
  go_enter Tryd.func28, Tryd.ntmps28
  go_upto_region 5 with fail
  refine wp_region_noPanic ?_
  refine wp_region_held_drew (S := (fun _ => True)) (by kernel_rfl) trivial (fun hHeld => ?_)
  refine wpAnyH_take_at (i := 0) (v := ?v0) rfl (by kernel_rfl) (by kernel_rfl) (by kernel_rfl) (fun _ _ _ h => h) (Or.inl ⟨by rfl, ?y0⟩) hHeld ?r0
  case y0 => (intro w hSw; (try dsimp only at hSw); go_simp; first | done | with_reducible rfl)
  (try simp only [Act.put, List.setIfInBounds_toArray, List.set_cons_zero, List.set_cons_succ])
  refine wpAnyH_take_at (i := 1) (v := ?v1) rfl (by kernel_rfl) (by kernel_rfl) (by kernel_rfl) (fun _ _ _ h => h) (Or.inl ⟨by rfl, ?y1⟩) hHeld ?r1
  case y1 => (intro w hSw; (try dsimp only at hSw); go_simp; first | done | with_reducible rfl)
  (try simp only [Act.put, List.setIfInBounds_toArray, List.set_cons_zero, List.set_cons_succ])
  refine wpAnyH_take_at (i := 2) (v := ?v2) rfl (by kernel_rfl) (by kernel_rfl) (by kernel_rfl) (fun _ _ _ h => h) (Or.inl ⟨by rfl, ?y2⟩) hHeld ?r2
  case y2 => (intro w hSw; (try dsimp only at hSw); go_simp; first | done | with_reducible rfl)
  (try simp only [Act.put, List.setIfInBounds_toArray, List.set_cons_zero, List.set_cons_succ])
  refine wpAnyH_take_at (i := 3) (v := ?v3) rfl (by kernel_rfl) (by kernel_rfl) (by kernel_rfl) (fun _ _ _ h => h) (Or.inl ⟨by rfl, ?y3⟩) hHeld ?r3
  case y3 => (intro w hSw; (try dsimp only at hSw); go_simp; first | done | with_reducible rfl)
  (try simp only [Act.put, List.setIfInBounds_toArray, List.set_cons_zero, List.set_cons_succ])
  refine wpAnyH_take_at (i := 4) (v := ?v4) rfl (by kernel_rfl) (by kernel_rfl) (by kernel_rfl) (fun _ _ _ h => h) (Or.inl ⟨by rfl, ?y4⟩) hHeld ?r4
  case y4 => (intro w hSw; (try dsimp only at hSw); go_simp; first | done | with_reducible rfl)
  (try simp only [Act.put, List.setIfInBounds_toArray, List.set_cons_zero, List.set_cons_succ])
  refine wpAnyH_take_at (i := 5) (v := ?v5) rfl (by kernel_rfl) (by kernel_rfl) (by kernel_rfl) (fun _ _ _ h => h) (Or.inl ⟨by rfl, ?y5⟩) hHeld ?r5
  case y5 => (intro w hSw; (try dsimp only at hSw); go_simp; first | done | with_reducible rfl)
  (try simp only [Act.put, List.setIfInBounds_toArray, List.set_cons_zero, List.set_cons_succ])
  refine wpAnyH_one (i := 6) (by kernel_rfl) rfl (fun KK hK => ?_)
  refine step_run_append rfl (.tmp 22) (.tmp 25) 38 rfl (by simp [Act.eval, Act.put]) (by simp [Act.eval, Act.put]) (HAP.out _) ?_
  refine hK.out _ _ ?s6 (fun hHeld => ?_)
  case s6 => trivial
  clear hK KK
  (try simp only [Act.put, List.setIfInBounds_toArray, List.set_cons_zero, List.set_cons_succ])
  refine wpAnyH_take_at (i := 7) (v := ?v7) rfl (by kernel_rfl) (by kernel_rfl) (by kernel_rfl) (fun _ _ _ h => h) (Or.inl ⟨by rfl, ?y7⟩) hHeld ?r7
  case y7 => (intro w hSw; (try dsimp only at hSw); go_simp; first | done | with_reducible rfl)
  (try simp only [Act.put, List.setIfInBounds_toArray, List.set_cons_zero, List.set_cons_succ])
  refine wpAnyH_done (by kernel_rfl) ?_ _
  refine NoPanic.normal ?_
  clear hHeld HAP
  (try rw [h9])
  go_wp2_with fail
  go_ret
  exact ⟨rfl, by rw [HW2.out]⟩
theorem del_end {W : World} {g o m : Nat} {rs : List Rl} {cur : Array Value} (hh : W.heap[g]? = some (.cells cur 29 (0, 0))) (hn : rs.length = m + 1) (hm : m ≤ 1000) (hsz : o + (m + 1) * 6 ≤ cur.size) (ht : ∀ j u, (rlCells rs)[j]? = some u → cur[o + j]? = some u)  :
    Calls Tryd.prog 28 #[.slice (some ⟨g, o, none⟩) (m + 1) (m + 1), .int .i64 m, .int .i64 ((m : Int) + 1)] W fun e W' => e = .returned (.slice (some ⟨g, o, none⟩) m (m + 1)) ∧ W' = (W.drew.setCells g (o + m * 6) (rlCells (rs.drop (m + 1)))).setCells g (o + m * 6) zeroL := by
  obtain ⟨i1, hi1, hy0, hy1, hy2⟩ := info_parts rlInfo
  have hle : m + 1 ≤ m + 1 := Nat.le_refl _
  have h1 : (0 : Int) ≤ (m : Int) := by omega
  have h2 : (m : Int) ≤ (m : Int) + 1 := by omega
  have h3 : (m : Int) + 1 ≤ (m : Int) + 1 := by omega
  have h4 : (m : Int) + 1 ≤ ((m + 1) : Int) := by omega
  have h5 : ((m : Int) == (m : Int) + 1) = false := beq_eq_false_iff_ne.2 (by omega)
  have h6 : decide ((m : Int) = (m : Int) + 1) = false := decide_eq_false (by omega)
  have h7 : (m : Int) ≤ ((m + 1) : Int) := by omega
  have h8 : (0 : Int) ≤ (m : Int) + 1 := by omega
  have hk : W.drew.heap[g]? = some (.cells cur 29 (0, 0)) := hh
  have hdl : (rlCells (rs.drop (m + 1))).length = 0 * i1.size := by rw [hy1, rlCells_length, List.length_drop, hn]; omega
  have hcell : ∀ x, x < (m + 1) * 6 → (W.drew.cell? ⟨g, o + x, none⟩).isSome = true := fun x hx => by
    rw [cell_of_heap hk, Array.getElem?_eq_getElem (by omega)]; rfl
  have hap : ∀ ty, (Builtin.append_ #[38, 38] ty #[.slice (some ⟨g, o, none⟩) m (m + 1), .slice (some ⟨g, o, none⟩) 0 (0)]).run Tryd.prog W.drew = .ok (.slice (some ⟨g, o, none⟩) (m + 0) (m + 1)) (W.drew.setCells g (o + m * 6) (rlCells (rs.drop (m + 1)))) := fun ty => by
    have := run_append_room_cells (P := Tryd.prog) W.drew 38 ty 29 i1 Tryd.underlying38 hi1 g o m (m + 1) ⟨g, o, none⟩ 0 (0) (rlCells (rs.drop (m + 1))) hdl (fun j u hu => by
      have : rs.drop (m + 1) = [] := List.drop_eq_nil_of_le (by omega)
      rw [this] at hu
      cases hu) (rl_one _) (by omega) (fun j hj => by
      rw [hdl, hy1] at hj
      rw [hy1, show o + m * 6 + j = o + (m * 6 + j) by omega]
      refine hcell _ ?_
      have q1 : m * 6 + 0 * 6 = m * 6 := by omega
      have q2 : (m + 1) * 6 ≤ (m + 1) * 6 := Nat.mul_le_mul_right 6 hle
      omega) (fun j _ => free_of_heap hk _)
    rw [hy1] at this
    exact this
  obtain ⟨c1, q1, q2, _, _⟩ := heap_setCells g (rlCells (rs.drop (m + 1))) (o + m * 6) W.drew cur hk
  obtain ⟨w2, hw2⟩ : ∃ w2, W.drew.setCells g (o + m * 6) (rlCells (rs.drop (m + 1))) = w2 := ⟨_, rfl⟩
  rw [hw2] at q1
  have hcl : ∀ ty c, (Builtin.clear_ #[38] ty #[.slice (some ⟨g, o + m * 6, none⟩) 1 c]).run Tryd.prog w2 = .ok (.tuple #[]) (w2.setCells g (o + m * 6) zeroL) := fun ty c =>
    run_clear_any w2 _ _ ty _ zeroL Tryd.underlying38 Tryd.zeroValue29 g (o + m * 6) 1 c (by decide) zero_cells (by intro v hv; simp only [zeroL, List.mem_cons, List.not_mem_nil, or_false] at hv; rcases hv with rfl | rfl | rfl | rfl | rfl | rfl <;> rfl) (fun j hj => by
      have hj6 : j < 6 := hj
      rw [cell_of_heap q1, Array.getElem?_eq_getElem (by
        have q3 : (m + 1) * 6 ≤ (m + 1) * 6 := Nat.mul_le_mul_right 6 hle
        omega)]; rfl) (fun j _ => free_of_heap q1 _)
  simp only [hw2] at hap
  have HAP := Lib.hid hap
  have h9 : m + 0 = m := by omega
  have h10 : (m : Int) ≤ (m : Int) + 1 := by omega
  have h11 : (0 : Int) ≤ (m : Int) := by omega
  have h12 : ¬ (m + 1) = m := by omega
  have h13 : (m : Int) ≤ ((m + 1) : Int) := by omega
  have HW2 := Lib.hid hw2
  clear hap hcell hdl hk hh ht q1 q2 hw2 hsz hn
  go_enter Tryd.func28, Tryd.ntmps28
  go_upto_region 5 with fail
  refine wp_region_noPanic ?_
  refine wp_region_held_drew (S := (fun _ => True)) (by kernel_rfl) trivial (fun hHeld => ?_)
  refine wpAnyH_take_at (i := 0) (v := ?v0) rfl (by kernel_rfl) (by kernel_rfl) (by kernel_rfl) (fun _ _ _ h => h) (Or.inl ⟨by rfl, ?y0⟩) hHeld ?r0
  case y0 => (intro w hSw; (try dsimp only at hSw); go_simp; first | done | with_reducible rfl)
  (try simp only [Act.put, List.setIfInBounds_toArray, List.set_cons_zero, List.set_cons_succ])
  refine wpAnyH_take_at (i := 1) (v := ?v1) rfl (by kernel_rfl) (by kernel_rfl) (by kernel_rfl) (fun _ _ _ h => h) (Or.inl ⟨by rfl, ?y1⟩) hHeld ?r1
  case y1 => (intro w hSw; (try dsimp only at hSw); go_simp; first | done | with_reducible rfl)
  (try simp only [Act.put, List.setIfInBounds_toArray, List.set_cons_zero, List.set_cons_succ])
  refine wpAnyH_take_at (i := 2) (v := ?v2) rfl (by kernel_rfl) (by kernel_rfl) (by kernel_rfl) (fun _ _ _ h => h) (Or.inl ⟨by rfl, ?y2⟩) hHeld ?r2
  case y2 => (intro w hSw; (try dsimp only at hSw); go_simp; first | done | with_reducible rfl)
  (try simp only [Act.put, List.setIfInBounds_toArray, List.set_cons_zero, List.set_cons_succ])
  refine wpAnyH_take_at (i := 3) (v := ?v3) rfl (by kernel_rfl) (by kernel_rfl) (by kernel_rfl) (fun _ _ _ h => h) (Or.inl ⟨by rfl, ?y3⟩) hHeld ?r3
  case y3 => (intro w hSw; (try dsimp only at hSw); go_simp; first | done | with_reducible rfl)
  (try simp only [Act.put, List.setIfInBounds_toArray, List.set_cons_zero, List.set_cons_succ])
  refine wpAnyH_take_at (i := 4) (v := ?v4) rfl (by kernel_rfl) (by kernel_rfl) (by kernel_rfl) (fun _ _ _ h => h) (Or.inl ⟨by rfl, ?y4⟩) hHeld ?r4
  case y4 => (intro w hSw; (try dsimp only at hSw); go_simp; first | done | with_reducible rfl)
  (try simp only [Act.put, List.setIfInBounds_toArray, List.set_cons_zero, List.set_cons_succ])
  refine wpAnyH_take_at (i := 5) (v := ?v5) rfl (by kernel_rfl) (by kernel_rfl) (by kernel_rfl) (fun _ _ _ h => h) (Or.inl ⟨by rfl, ?y5⟩) hHeld ?r5
  case y5 => (intro w hSw; (try dsimp only at hSw); go_simp; first | done | with_reducible rfl)
  (try simp only [Act.put, List.setIfInBounds_toArray, List.set_cons_zero, List.set_cons_succ])
  refine wpAnyH_one (i := 6) (by kernel_rfl) rfl (fun KK hK => ?_)
  refine step_run_append rfl (.tmp 22) (.tmp 25) 38 rfl (by simp [Act.eval, Act.put]) (by simp [Act.eval, Act.put]) (HAP.out _) ?_
  refine hK.out _ _ ?s6 (fun hHeld => ?_)
  case s6 => trivial
  clear hK KK
  (try simp only [Act.put, List.setIfInBounds_toArray, List.set_cons_zero, List.set_cons_succ])
  refine wpAnyH_take_at (i := 7) (v := ?v7) rfl (by kernel_rfl) (by kernel_rfl) (by kernel_rfl) (fun _ _ _ h => h) (Or.inl ⟨by rfl, ?y7⟩) hHeld ?r7
  case y7 => (intro w hSw; (try dsimp only at hSw); go_simp; first | done | with_reducible rfl)
  (try simp only [Act.put, List.setIfInBounds_toArray, List.set_cons_zero, List.set_cons_succ])
  refine wpAnyH_done (by kernel_rfl) ?_ _
  refine NoPanic.normal ?_
  clear hHeld HAP
  (try rw [h9])
  go_wp2_with fail
  go_ret
  exact ⟨rfl, by rw [HW2.out]⟩
end Go.Proofs.YtaabmkebbnkonaaDoor
