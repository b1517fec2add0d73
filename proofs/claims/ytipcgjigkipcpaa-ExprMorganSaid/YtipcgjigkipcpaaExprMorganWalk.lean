/-
  The walk of the law ExprMorgan.
-/
import Derived.Test.YtipcgjigkipcpaaExprMaker
import Derived.Test.YtipcgjigkipcpaaExprRefRight
import Derived.Test.YtipcgjigkipcpaaExprMorganPlain
set_option linter.unusedVariables false
set_option linter.unusedSimpArgs false
set_option linter.unnecessarySimpa false
namespace Go.Proofs.Ytipcgjigkipcpaa
open Go.ChangeShapes Go.WideShapes Go.ChangeAt Go.RowKit Go.Deep NodePlain
theorem spCells_at : ∀ (l : List Sp) (j : Nat) (u : Value), (spCells l)[j]? = some u → ∃ i t s, l[i]? = some s ∧ (spC s)[t]? = some u ∧ j = i * 3 + t
  | [], j, u, h => by cases h
  | x :: l, j, u, h => by
    rw [spCells] at h
    rcases Nat.lt_or_ge j 3 with hj | hj
    · rw [List.getElem?_append_left (by exact hj)] at h
      exact ⟨0, j, x, rfl, h, by omega⟩
    · rw [List.getElem?_append_right (by exact hj)] at h
      obtain ⟨i, t, r, h1, h2, h3⟩ := spCells_at l _ u h
      refine ⟨i + 1, t, r, h1, h2, ?_⟩
      have : (spC x).length = 3 := rfl
      omega
theorem sp_cell (r : Sp) : ∀ (t : Nat) (u : Value), (spC r)[t]? = some u → (t = 0 ∧ u = .int .i64 r.op) ∨ (t = 1 ∧ u = .int .i64 r.a) ∨ (t = 2 ∧ u = .int .i64 r.b) := fun t u h => by
  match t, h with
  | 0, h => exact .inl ⟨rfl, (Option.some.inj h).symm⟩
  | 1, h => exact .inr (.inl ⟨rfl, (Option.some.inj h).symm⟩)
  | 2, h => exact .inr (.inr ⟨rfl, (Option.some.inj h).symm⟩)
  | n + 3, h => cases h
theorem sp_one (l : List Sp) : ∀ u ∈ spCells l, u.oneCell' = true := fun u hu => by
  obtain ⟨j, hj⟩ := List.getElem?_of_mem hu
  obtain ⟨i, t, r, _, h2, _⟩ := spCells_at l j u hj
  rcases sp_cell r t u h2 with ⟨_, rfl⟩ | ⟨_, rfl⟩ | ⟨_, rfl⟩ <;> rfl
theorem spCells_length : ∀ l : List Sp, (spCells l).length = l.length * 3
  | [] => rfl
  | s :: l => by rw [spCells, List.length_append, spCells_length l, List.length_cons, show (spC s).length = 3 from rfl]; omega
theorem sp_news {w : World} {ms : List Sp} {b off : Nat} (h : ∀ (i : Nat) (s : Sp), ms[i]? = some s → w.cell? ⟨b, off + i * 3, none⟩ = some (.int .i64 s.op) ∧ w.cell? ⟨b, off + i * 3 + 1, none⟩ = some (.int .i64 s.a) ∧ w.cell? ⟨b, off + i * 3 + 2, none⟩ = some (.int .i64 s.b)) :
    ∀ j u, (spCells ms)[j]? = some u → w.cell? ((⟨b, off, none⟩ : Addr).add j) = some u := fun j u hu => by
  obtain ⟨i, t, r, h1, h2, rfl⟩ := spCells_at ms j u hu
  rw [add_plain, ← Nat.add_assoc]
  obtain ⟨c0, c1, c2⟩ := h i r h1
  rcases sp_cell r t u h2 with ⟨rfl, rfl⟩ | ⟨rfl, rfl⟩ | ⟨rfl, rfl⟩
  · exact c0
  · exact c1
  · exact c2
theorem own_empty {w : World} {base b : Nat} {e : TypeId} {size : Nat} (h : w.heap[b]? = some (.cells #[] e (0, 0))) (hb : base ≤ b) : w.ownsRow base e size (.slice (some ⟨b, 0, none⟩) 0 0) 0 [] :=
  ⟨by simp, .inr ⟨b, 0, #[], rfl, hb, h, Nat.le_refl _, by unfold maxLen; omega, by simp, by simp⟩⟩
theorem refInfo : (Try.prog.info? 58).map (fun i => (i.zero, i.size, i.bytes)) = some (some (.agg #[.int .i64 0, .int .i64 0, .int .i64 0]), 3, 24) := by kernel_rfl
/-- A list of steps of the program's own, made by this call. -/
structure Own (w W : World) (v : Value) (l : List Sp) : Prop where
  own : W.ownsRow w.heap.size 58 3 v l.length (spCells l)
theorem Own.quiet {w W W' : World} {v : Value} {l : List Sp} (h : Own w W v l) (hk : Keeps (fun _ => False) W W') : Own w W' v l := ⟨ownsRow_keeps' h.own hk (fun _ _ x => x)⟩
theorem Own.at_ {w W : World} {v : Value} {l : List Sp} (h : Own w W v l) (h0 : 0 < l.length) : ∃ g c, v = .slice (some ⟨g, 0, none⟩) l.length c ∧ l.length ≤ c ∧ SpRow W (some ⟨g, 0, none⟩) l ∧ (∀ j u, (spCells l)[j]? = some u → W.cell? ((⟨g, 0, none⟩ : Addr).add j) = some u) ∧ g < W.heap.size := by
  obtain ⟨ao, cap, hv, hle, hrow, hfr⟩ := own_sps h.own
  obtain ⟨b, off, e, hlt, hc⟩ := hrow h0
  obtain ⟨ao2, cap2, hv2, _, _, _, hold⟩ := own_form h.own
  rw [hv] at hv2
  simp only [Value.slice.injEq] at hv2
  have h0' := (hold ⟨b, off, none⟩ (by rw [← hv2.1, e])).1
  simp only at h0'
  subst h0' e
  exact ⟨b, cap, hv, hle, hrow, sp_news hc, hlt⟩
theorem Own.cells {w W : World} {l : List Sp} {g L c : Nat} (h : Own w W (.slice (some ⟨g, 0, none⟩) L c) l) : ∀ j u, (spCells l)[j]? = some u → W.cell? ((⟨g, 0, none⟩ : Addr).add j) = some u := fun j u hu => by
  obtain ⟨ao, cap, hv, _, _, _, hold⟩ := own_form h.own
  simp only [Value.slice.injEq] at hv
  rw [add_plain, Nat.zero_add]
  exact (hold ⟨g, 0, none⟩ hv.1.symm).2.2.2.2 j u hu
theorem Own.old {w W W' : World} {v : Value} {l : List Sp} (h : Own w W v l) (hk : Keeps (fun x => W.heap.size ≤ x) W W') : Own w W' v l :=
  ⟨ownsRow_keeps' h.own hk (fun k hk2 e => by have h1 := own_lt h.own k hk2; have h2 : W.heap.size ≤ k := e; omega)⟩
theorem right_ok2 {vars : Int} {l : List Sp} (h : rightE vars l = true) : ∀ j s, l[j]? = some s → OkS vars j s := fun j s hs => by
  have hj : j < l.length := by
    rcases Nat.lt_or_ge j l.length with h' | h'
    · exact h'
    · rw [List.getElem?_eq_none h'] at hs; cases hs
  have := right_at h hj
  rw [getD_of hs] at this
  exact this
set_option maxRecDepth 100000
set_option maxHeartbeats 6400000
theorem exprMorgan_walk (w : World) (x : Int) (hx0 : 0 ≤ x) (hx1 : x ≤ 18446744073709551615) (ao : Option Addr) (n ca : Nat) (Ga : Nat → Nat → Value) (Ra : IsRow w [.int .i64, .int .i64, .int .i64] ao n ca Ga) (bo : Option Addr) (m cb : Nat) (Gb : Nat → Nat → Value) (Rb : IsRow w [.int .i64, .int .i64, .int .i64] bo m cb Gb) :
    Calls Try.prog 6 #[.int .u64 x, .slice ao n ca, .slice bo m cb] w fun e w' => e = .returned (.bool true) ∧ Below w.heap.size w w' := by
  obtain ⟨X, rfl⟩ := Int.eq_ofNat_of_zero_le hx0
  obtain ⟨k, hk⟩ : ∃ k, X % 9 = k := ⟨_, rfl⟩
  have hk8 : k ≤ 8 := by omega
  have hmod : ((X : Int)).tmod 9 = (k : Int) := by rw [Int.tmod_eq_emod_of_nonneg (by omega)]; omega
  have hwk : IntKind.i64.wrap (k : Int) = (k : Int) := IntWalk.i64_in _ (by omega)
  obtain ⟨a, hla, hrowa, _⟩ := Ra.sps (Nat.le_refl n)
  obtain ⟨b, hlb, hrowb, hinb⟩ := Rb.sps (Nat.le_refl m)
  have hnc := Ra.le
  have hmc := Rb.le
  have HL := Lib.hid lives19_any
  clear Ra Rb hx0 hx1 hk
  by_cases hn1 : n < 1
  · have hnI : (n : Int) < 1 := by omega
    go_enter Try.func6, Try.ntmps6
    go_wp2_with fail
    refine (HL.out w).mono ?_
    rintro e w2 ⟨rfl, hb⟩
    go_wp2_with fail
    go_ret
    exact ⟨rfl, hb⟩
  have hn1I : ¬ (n : Int) < 1 := by omega
  by_cases hn20 : 20 < n
  · have hnI : 20 < (n : Int) := by omega
    go_enter Try.func6, Try.ntmps6
    go_wp2_with fail
    refine (HL.out w).mono ?_
    rintro e w2 ⟨rfl, hb⟩
    go_wp2_with fail
    go_ret
    exact ⟨rfl, hb⟩
  have hn20I : ¬ 20 < (n : Int) := by omega
  by_cases hm1 : m < 1
  · have hnI : (m : Int) < 1 := by omega
    go_enter Try.func6, Try.ntmps6
    go_wp2_with fail
    refine (HL.out w).mono ?_
    rintro e w2 ⟨rfl, hb⟩
    go_wp2_with fail
    go_ret
    exact ⟨rfl, hb⟩
  have hm1I : ¬ (m : Int) < 1 := by omega
  by_cases hm20 : 20 < m
  · have hnI : 20 < (m : Int) := by omega
    go_enter Try.func6, Try.ntmps6
    go_wp2_with fail
    refine (HL.out w).mono ?_
    rintro e w2 ⟨rfl, hb⟩
    go_wp2_with fail
    go_ret
    exact ⟨rfl, hb⟩
  have hm20I : ¬ 20 < (m : Int) := by omega
  have HRA := Lib.hid (rright_spec w k hla hnc hrowa)
  have HRB : Hid (∀ W', Keeps (fun _ => False) w W' → Calls Try.prog 27 #[.int .i64 (k : Int), .slice bo m cb] W' fun e W2 => e = .returned (.bool (rightE k b)) ∧ Keeps (fun _ => False) W' W2) := fun W' hk => rright_spec W' k hlb hmc (hrowb.quiet hk)
  cases hoa : rightE k a with
  | false =>
    rw [hoa] at HRA
    go_enter Try.func6, Try.ntmps6
    go_wp2_with fail
    refine HRA.out.mono ?_
    rintro e w1 ⟨rfl, k1⟩
    go_wp2_with fail
    refine (HL.out w1).mono ?_
    rintro e w2 ⟨rfl, hb⟩
    go_wp2_with fail
    go_ret
    exact ⟨rfl, (k1.below (Nat.le_refl _) (fun _ _ x => x)).trans (hb.mono k1.size)⟩
  | true =>
  rw [hoa] at HRA
  cases hob : rightE k b with
  | false =>
    rw [hob] at HRB
    go_enter Try.func6, Try.ntmps6
    go_wp2_with fail
    refine HRA.out.mono ?_
    rintro e w1 ⟨rfl, k1⟩
    go_wp2_with fail
    refine (HRB.out _ k1).mono ?_
    rintro e w2 ⟨rfl, k2⟩
    go_wp2_with fail
    refine (HL.out w2).mono ?_
    rintro e w3 ⟨rfl, hb⟩
    have kk := k1.trans k2
    go_wp2_with fail
    go_ret
    exact ⟨rfl, (kk.below (Nat.le_refl _) (fun _ _ x => x)).trans (hb.mono kk.size)⟩
  | true =>
  rw [hob] at HRB
  obtain ⟨i0, hi0, hz0, hz1, hz2⟩ := info_parts refInfo
  have HROWB := Lib.hid hrowb
  have HINB := Lib.hid hinb
  have HLA := Lib.hid hla
  have HLB := Lib.hid hlb
  have HOA := Lib.hid hoa
  have HOB := Lib.hid hob
  obtain ⟨ab, aoff, rfl, habl, hac⟩ := hrowa (by omega)
  have HAC := Lib.hid (sp_news hac)
  have HCK : Hid (∀ W', Keeps (fun _ => False) w W' → ∀ j u, (spCells a)[j]? = some u → W'.cell? ((⟨ab, aoff, none⟩ : Addr).add j) = some u) := fun W' hk => sp_news fun i s hs => by
    obtain ⟨c0, c1, c2⟩ := hac i s hs
    exact ⟨(hk.cell (p := ⟨ab, aoff + i * 3, none⟩) habl (fun x => x)).trans c0, (hk.cell (p := ⟨ab, aoff + i * 3 + 1, none⟩) habl (fun x => x)).trans c1, (hk.cell (p := ⟨ab, aoff + i * 3 + 2, none⟩) habl (fun x => x)).trans c2⟩
  clear hrowa hrowb hinb hoa hob hla hlb hac HAC
  go_enter Try.func6, Try.ntmps6
  go_wp2_with fail
  refine HRA.out.mono ?_
  rintro e w1 ⟨rfl, k1⟩
  have HK1 := Lib.hid k1
  clear k1 HRA
  go_wp2_with fail
  refine (HRB.out _ HK1.out).mono ?_
  rintro e w2 ⟨rfl, k2⟩
  have HK2 := Lib.hid (HK1.out.trans k2)
  clear k2 HK1 HRB
  have hsz := HK2.out.size
  have ha2 := (MapKept.heap_alloc w2 (.cells #[] 58)).1
  have hk2a : Keeps (fun _ => False) w2 (w2.alloc (.cells #[] 58)) := (Keeps.refl _ _).alloc _
  have HE := Lib.hid (own_empty (base := w.heap.size) (size := 3) ha2 hsz)
  have HA2 := Lib.hid (HCK.out _ (HK2.out.trans hk2a))
  clear ha2
  go_wp2_with (at_builtin; refine wpList_append_own _ rfl _ _ 46 rfl w.heap.size 58 i0 _ 3 24 Try.underlying46 hi0 hz0 hz1 hz2 rfl (by decide) _ 0 [] rfl HE.out ⟨ab, aoff, none⟩ n ca (spCells a) rfl (by rw [spCells_length, HLA.out]) HA2.out (sp_one a) (by unfold maxLen; omega) (by omega) (by have := hk2a.size; omega) ?_)
  intro v3 w3 hown3 hgrow3 _
  have k3 : Keeps (fun _ => False) w2 w3 := hk2a.trans_new (keeps_grown hgrow3) (fun i hi e => by simp only [Value.ownBlock, Option.some.injEq] at e; omega)
  have HK3 : Hid (Keeps (fun x => w.heap.size ≤ x) w w3) := (HK2.out.trans k3).mono (fun _ _ x => x.elim)
  have hO3 : Own w w3 v3 (a ++ (b.take 0).map (shiftS n)) := by
    have e : (a ++ (b.take 0).map (shiftS n)) = a := by simp
    rw [e]
    refine ⟨?_⟩
    rw [HLA.out]
    exact hown3
  have HO3 := Lib.hid hO3
  clear hown3 hgrow3 k3 hO3 hk2a HE HA2 HCK HK2 hsz
  go_wp2_with fail
  go_loopg [9, 66] m (fun g lv t wy => ∃ (j : Nat) (v : Value), j ≤ m ∧ g = m - j ∧ v = lv ∧ t = .int .i64 j ∧ Hid (Keeps (fun x => w.heap.size ≤ x) w wy) ∧ Hid (Own w wy v (a ++ (b.take j).map (shiftS n))))
  case atStart => exact ⟨0, v3, Nat.zero_le _, rfl, rfl, rfl, HK3, HO3⟩
  case round =>
    clear HK3 HO3
    obtain ⟨j, v, hj, rfl, rfl, rfl, HK, HO⟩ := hrel
    by_cases hlt : j < m
    · have hjI : (j : Int) < (m : Int) := by omega
      have hwj : IntKind.i64.wrap ((j : Int) + 1) = (j : Int) + 1 := IntWalk.i64_in _ (by omega)
      obtain ⟨⟨op, p, q⟩, hs⟩ : ∃ s, b[j]? = some s := ⟨_, List.getElem?_eq_getElem (by have := HLB.out; omega)⟩
      obtain ⟨bb, off, rfl, hbb, hcc⟩ := HROWB.out.old HK.out (by have := HLB.out; omega)
      obtain ⟨c0, c1, c2⟩ := hcc j _ hs
      simp only [] at c0 c1 c2
      have hjc : j < cb := by omega
      have hok := right_ok2 HOB.out j _ hs
      have hkl := right_len HOB.out
      have hkk := hkl.2.1
      have hal := (MapKept.heap_alloc wr (.cells #[.int .i64 op, .int .i64 p, .int .i64 q] 58)).1
      have hk2 : Keeps (fun _ => False) wr (wr.alloc (.cells #[.int .i64 op, .int .i64 p, .int .i64 q] 58)) := (Keeps.refl _ _).alloc _
      have how := HO.out.quiet hk2
      have HKa : Hid (Keeps (fun x => w.heap.size ≤ x) w (wr.alloc (.cells #[.int .i64 op, .int .i64 p, .int .i64 q] 58))) := HK.out.trans_new hk2 (fun _ _ x => x.elim)
      have hlen : (a ++ (b.take j).map (shiftS n)).length = n + j := by
        rw [List.length_append, HLA.out, List.length_map, List.length_take, HLB.out]; omega
      have HNX : Hid (∀ s, s = shiftS n ⟨op, p, q⟩ → a ++ (b.take j).map (shiftS n) ++ [s] = a ++ (b.take (j + 1)).map (shiftS n)) := fun s e => by
        rw [List.take_add_one, hs, Option.toList_some, List.map_append, List.append_assoc, e]; rfl
      generalize a ++ (b.take j).map (shiftS n) = lj at *
      have HOW := Lib.hid how
      have HLJ := Lib.hid hlen
      clear hcc hs hk2 how
      have hbxl := HK.out.size
      have HVB : Hid (∀ k, v.ownBlock = some k → k < wr.heap.size) := own_lt HO.out.own
      go_upto_region 9 with fail
      obtain ⟨bx, hbx⟩ : ∃ bx, wr.heap.size = bx := ⟨_, rfl⟩
      rw [hbx] at hal hbxl HVB ⊢
      have HAL := Lib.hid hal
      have d0 := cell_of_heap hal 0
      have d1 := cell_of_heap hal 1
      have d2 := cell_of_heap hal 2
      have f1 := free_of_heap hal 1
      have f2 := free_of_heap hal 2
      have hlb := lt_of_heap hal
      simp only [List.getElem?_toArray, List.getElem?_cons_zero, List.getElem?_cons_succ] at d0 d1 d2
      generalize wr.alloc (.cells #[.int .i64 op, .int .i64 p, .int .i64 q] 58) = w4 at *
      clear c0 c1 c2 HK HO hal hbx
      have HOWN : Hid (w4.ownsRow w.heap.size 58 3 v (n + j) (spCells lj)) := by have := HOW.out.own; rw [HLJ.out] at this; exact this
      have HOK5 : Hid (∀ w5, Keeps (fun x => x = bx) w4 w5 → w5.ownsRow w.heap.size 58 3 v (n + j) (spCells lj)) := fun w5 hk => ownsRow_keeps' HOWN.out hk (fun k hk2 e => by have := HVB.out k hk2; have e2 : k = bx := e; omega)
      have HFIN : Hid (∀ (s : Sp) (w5 : World) v2 w6, s = shiftS n ⟨op, p, q⟩ → Keeps (fun x => x = bx) w4 w5 → w6.ownsRow w.heap.size 58 3 v2 (n + j + 1) (spCells lj ++ [.int .i64 s.op, .int .i64 s.a, .int .i64 s.b]) → (w5.alloc (.cells #[.int .i64 s.op, .int .i64 s.a, .int .i64 s.b] 58)).grownBy w6 v.ownBlock → Keeps (fun x => w.heap.size ≤ x) w w6 ∧ Own w w6 v2 (a ++ (b.take (j + 1)).map (shiftS n))) := fun s w5 v2 w6 hs hk5 ho hg => by
        refine ⟨?_, ⟨?_⟩⟩
        · have q1 := HKa.out.trans_new hk5 (fun i hi e => by have e2 : i = bx := e; show w.heap.size ≤ i; omega)
          have q2 := q1.trans_new ((Keeps.refl (fun _ => False) w5).alloc (.cells #[.int .i64 s.op, .int .i64 s.a, .int .i64 s.b] 58)) (fun _ _ x => x.elim)
          exact q2.trans_new (keeps_grown hg) (fun i hi e => own_block HOWN.out i e)
        · rw [← HNX.out s hs, List.length_append, HLJ.out, spCells_append]
          exact ho
      rcases hok.of with ⟨h1, av, ha, hav, hb⟩ | ⟨h2, av, ha, hav, hb⟩ | ⟨av, bv, ha, hav, hb, hbv, h345⟩ | ⟨ha, hb, h67⟩
      · (try simp only [] at h1 ha hb)
        subst h1 ha hb
        have HSH : Hid ((⟨1, (av : Int), 0⟩ : Sp) = shiftS n ⟨1, (av : Int), 0⟩) := rfl
        have HK5 : Hid (Keeps (fun x => x = bx) w4 w4) := Keeps.refl _ _
        have HOW5 := Lib.hid (HOK5.out w4 HK5.out)
        have HSZ5 : Hid (w.heap.size ≤ w4.heap.size) := by show w.heap.size ≤ w4.heap.size; have := HK5.out.size; have := HKa.out.size; omega
        go_upto_region 13 with fail
        go_wp2_with (at_builtin; refine wpList_append_own _ rfl _ _ 46 rfl w.heap.size 58 i0 _ 3 24 Try.underlying46 hi0 hz0 hz1 hz2 rfl (by decide) _ _ _ rfl (HOW5.out.alloc _) ⟨w4.heap.size, 0, none⟩ 1 1 [.int .i64 1, .int .i64 (av : Int), .int .i64 0] rfl rfl (cells_new w4 _ _) (by intro u hu; simp only [List.mem_cons, List.not_mem_nil, or_false] at hu; rcases hu with rfl | rfl | rfl <;> rfl) (by unfold maxLen; omega) (by omega) (by have := HSZ5.out; simp; omega) ?_)
        intro v2 w6 hown2 hgrow _
        have HN3 := Lib.hid (HFIN.out ⟨1, (av : Int), 0⟩ w4 v2 w6 HSH.out HK5.out hown2 hgrow)
        clear hown2 hgrow HFIN HOW5 HOWN HK5 HSH HOK5
        go_wp2_with fail
        go_roundg (m - (j + 1))
        case measure => omega
        case rel => exact ⟨j + 1, _, by omega, rfl, rfl, by go_num, HN3.out.1, HN3.out.2⟩
      · (try simp only [] at h2 ha hb)
        subst h2 ha hb
        have hwa : IntKind.i64.wrap ((av : Int) + (n : Int)) = (av : Int) + (n : Int) := IntWalk.i64_in _ (by omega)
        have HB5 := heap_set HAL.out 1 (.int .i64 ((av : Int) + (n : Int)))
        have e0 : (w4.setCell ⟨bx, 1, none⟩ (.int .i64 ((av : Int) + (n : Int)))).cell? ⟨bx, 0, none⟩ = some (.int .i64 2) := by rw [cell_of_heap HB5]; rfl
        have e1 : (w4.setCell ⟨bx, 1, none⟩ (.int .i64 ((av : Int) + (n : Int)))).cell? ⟨bx, 1, none⟩ = some (.int .i64 ((av : Int) + (n : Int))) := by rw [cell_of_heap HB5]; rfl
        have e2 : (w4.setCell ⟨bx, 1, none⟩ (.int .i64 ((av : Int) + (n : Int)))).cell? ⟨bx, 2, none⟩ = some (.int .i64 0) := by rw [cell_of_heap HB5]; rfl
        have hkk5 : Keeps (fun x => x = bx) w4 (w4.setCell ⟨bx, 1, none⟩ (.int .i64 ((av : Int) + (n : Int)))) := Keeps.setCell (S := fun x => x = bx) (Keeps.refl _ w4) (p := ⟨bx, 1, none⟩) (fun _ => rfl) _
        clear HB5
        go_upto_region 13 with fail
        generalize (w4.setCell ⟨bx, 1, none⟩ (.int .i64 ((av : Int) + (n : Int)))) = w5 at *
        have HSH : Hid ((⟨2, ((av : Int) + (n : Int)), 0⟩ : Sp) = shiftS n ⟨2, (av : Int), 0⟩) := rfl
        have HK5 : Hid (Keeps (fun x => x = bx) w4 w5) := hkk5
        have HOW5 := Lib.hid (HOK5.out w5 HK5.out)
        have HSZ5 : Hid (w.heap.size ≤ w5.heap.size) := by show w.heap.size ≤ w5.heap.size; have := HK5.out.size; have := HKa.out.size; omega
        clear hkk5 d0 d1 d2 f1 f2
        go_wp2_with (at_builtin; refine wpList_append_own _ rfl _ _ 46 rfl w.heap.size 58 i0 _ 3 24 Try.underlying46 hi0 hz0 hz1 hz2 rfl (by decide) _ _ _ rfl (HOW5.out.alloc _) ⟨w5.heap.size, 0, none⟩ 1 1 [.int .i64 2, .int .i64 ((av : Int) + (n : Int)), .int .i64 0] rfl rfl (cells_new w5 _ _) (by intro u hu; simp only [List.mem_cons, List.not_mem_nil, or_false] at hu; rcases hu with rfl | rfl | rfl <;> rfl) (by unfold maxLen; omega) (by omega) (by have := HSZ5.out; simp; omega) ?_)
        intro v2 w6 hown2 hgrow _
        have HN3 := Lib.hid (HFIN.out ⟨2, ((av : Int) + (n : Int)), 0⟩ w5 v2 w6 HSH.out HK5.out hown2 hgrow)
        clear hown2 hgrow HFIN HOW5 HOWN HK5 HSH HOK5
        go_wp2_with fail
        go_roundg (m - (j + 1))
        case measure => omega
        case rel => exact ⟨j + 1, _, by omega, rfl, rfl, by go_num, HN3.out.1, HN3.out.2⟩
      · (try simp only [] at ha hb h345)
        subst ha hb
        have o2 : 2 ≤ op := by omega
        have o3 : 3 ≤ op := by omega
        have o5 : op ≤ 5 := by omega
        have hwa : IntKind.i64.wrap ((av : Int) + (n : Int)) = (av : Int) + (n : Int) := IntWalk.i64_in _ (by omega)
        have hwb : IntKind.i64.wrap ((bv : Int) + (n : Int)) = (bv : Int) + (n : Int) := IntWalk.i64_in _ (by omega)
        have HB5 := heap_set (heap_set HAL.out 1 (.int .i64 ((av : Int) + (n : Int)))) 2 (.int .i64 ((bv : Int) + (n : Int)))
        have e0 : ((w4.setCell ⟨bx, 1, none⟩ (.int .i64 ((av : Int) + (n : Int)))).setCell ⟨bx, 2, none⟩ (.int .i64 ((bv : Int) + (n : Int)))).cell? ⟨bx, 0, none⟩ = some (.int .i64 op) := by rw [cell_of_heap HB5]; rfl
        have e1 : ((w4.setCell ⟨bx, 1, none⟩ (.int .i64 ((av : Int) + (n : Int)))).setCell ⟨bx, 2, none⟩ (.int .i64 ((bv : Int) + (n : Int)))).cell? ⟨bx, 1, none⟩ = some (.int .i64 ((av : Int) + (n : Int))) := by rw [cell_of_heap HB5]; rfl
        have e2 : ((w4.setCell ⟨bx, 1, none⟩ (.int .i64 ((av : Int) + (n : Int)))).setCell ⟨bx, 2, none⟩ (.int .i64 ((bv : Int) + (n : Int)))).cell? ⟨bx, 2, none⟩ = some (.int .i64 ((bv : Int) + (n : Int))) := by rw [cell_of_heap HB5]; rfl
        have hkk5 : Keeps (fun x => x = bx) w4 ((w4.setCell ⟨bx, 1, none⟩ (.int .i64 ((av : Int) + (n : Int)))).setCell ⟨bx, 2, none⟩ (.int .i64 ((bv : Int) + (n : Int)))) := Keeps.setCell (S := fun x => x = bx) (Keeps.setCell (S := fun x => x = bx) (Keeps.refl _ w4) (p := ⟨bx, 1, none⟩) (fun _ => rfl) _) (p := ⟨bx, 2, none⟩) (fun _ => rfl) _
        clear HB5 h345
        go_upto_region 13 with fail
        generalize ((w4.setCell ⟨bx, 1, none⟩ (.int .i64 ((av : Int) + (n : Int)))).setCell ⟨bx, 2, none⟩ (.int .i64 ((bv : Int) + (n : Int)))) = w5 at *
        have HSH : Hid ((⟨op, ((av : Int) + (n : Int)), ((bv : Int) + (n : Int))⟩ : Sp) = shiftS n ⟨op, (av : Int), (bv : Int)⟩) := by show _ = _; unfold shiftS; simp only []; rw [if_pos ⟨o2, o5⟩, if_pos ⟨o3, o5⟩]
        have HK5 : Hid (Keeps (fun x => x = bx) w4 w5) := hkk5
        have HOW5 := Lib.hid (HOK5.out w5 HK5.out)
        have HSZ5 : Hid (w.heap.size ≤ w5.heap.size) := by show w.heap.size ≤ w5.heap.size; have := HK5.out.size; have := HKa.out.size; omega
        clear hkk5 d0 d1 d2 f1 f2
        go_wp2_with (at_builtin; refine wpList_append_own _ rfl _ _ 46 rfl w.heap.size 58 i0 _ 3 24 Try.underlying46 hi0 hz0 hz1 hz2 rfl (by decide) _ _ _ rfl (HOW5.out.alloc _) ⟨w5.heap.size, 0, none⟩ 1 1 [.int .i64 op, .int .i64 ((av : Int) + (n : Int)), .int .i64 ((bv : Int) + (n : Int))] rfl rfl (cells_new w5 _ _) (by intro u hu; simp only [List.mem_cons, List.not_mem_nil, or_false] at hu; rcases hu with rfl | rfl | rfl <;> rfl) (by unfold maxLen; omega) (by omega) (by have := HSZ5.out; simp; omega) ?_)
        intro v2 w6 hown2 hgrow _
        have HN3 := Lib.hid (HFIN.out ⟨op, ((av : Int) + (n : Int)), ((bv : Int) + (n : Int))⟩ w5 v2 w6 HSH.out HK5.out hown2 hgrow)
        clear hown2 hgrow HFIN HOW5 HOWN HK5 HSH HOK5
        go_wp2_with fail
        go_roundg (m - (j + 1))
        case measure => omega
        case rel => exact ⟨j + 1, _, by omega, rfl, rfl, by go_num, HN3.out.1, HN3.out.2⟩
      · (try simp only [] at ha hb h67)
        subst ha hb
        have o2 : 2 ≤ op := by omega
        have o3 : 3 ≤ op := by omega
        have o5 : ¬ op ≤ 5 := by omega
        clear h67
        have HSH : Hid ((⟨op, 0, 0⟩ : Sp) = shiftS n ⟨op, 0, 0⟩) := by show _ = _; unfold shiftS; simp only []; rw [if_neg (by omega), if_neg (by omega)]
        have HK5 : Hid (Keeps (fun x => x = bx) w4 w4) := Keeps.refl _ _
        have HOW5 := Lib.hid (HOK5.out w4 HK5.out)
        have HSZ5 : Hid (w.heap.size ≤ w4.heap.size) := by show w.heap.size ≤ w4.heap.size; have := HK5.out.size; have := HKa.out.size; omega
        go_upto_region 13 with fail
        go_wp2_with (at_builtin; refine wpList_append_own _ rfl _ _ 46 rfl w.heap.size 58 i0 _ 3 24 Try.underlying46 hi0 hz0 hz1 hz2 rfl (by decide) _ _ _ rfl (HOW5.out.alloc _) ⟨w4.heap.size, 0, none⟩ 1 1 [.int .i64 op, .int .i64 0, .int .i64 0] rfl rfl (cells_new w4 _ _) (by intro u hu; simp only [List.mem_cons, List.not_mem_nil, or_false] at hu; rcases hu with rfl | rfl | rfl <;> rfl) (by unfold maxLen; omega) (by omega) (by have := HSZ5.out; simp; omega) ?_)
        intro v2 w6 hown2 hgrow _
        have HN3 := Lib.hid (HFIN.out ⟨op, 0, 0⟩ w4 v2 w6 HSH.out HK5.out hown2 hgrow)
        clear hown2 hgrow HFIN HOW5 HOWN HK5 HSH HOK5
        go_wp2_with fail
        go_roundg (m - (j + 1))
        case measure => omega
        case rel => exact ⟨j + 1, _, by omega, rfl, rfl, by go_num, HN3.out.1, HN3.out.2⟩
    · have hjI : ¬ (j : Int) < (m : Int) := by omega
      have hjm : j = m := by omega
      obtain ⟨l, hl⟩ : ∃ l, a ++ b.map (shiftS a.length) = l := ⟨_, rfl⟩
      have hO : Own w wr v l := by
        have q := HO.out
        rw [hjm, List.take_of_length_le (by have := HLB.out; omega)] at q
        have e := HLA.out
        rw [← hl, e]
        exact q
      have hLn : l.length = n + m := by rw [← hl, List.length_append, List.length_map, HLA.out, HLB.out]
      obtain ⟨g, c, rfl, hLc, _, _, hglt⟩ := hO.at_ (by omega)
      obtain ⟨L, hL⟩ : ∃ L, l.length = L := ⟨_, rfl⟩
      rw [hL] at hO hLc hLn ⊢
      have HLL : Hid (l.length = L) := hL
      have hL40 : L ≤ 40 := by omega
      have hwx : IntKind.i64.wrap ((n : Int) - 1) = (n : Int) - 1 := IntWalk.i64_in _ (by omega)
      have hwy : IntKind.i64.wrap ((L : Int) - 1) = (L : Int) - 1 := IntWalk.i64_in _ (by omega)
      have hwL : IntKind.i64.wrap ((L : Int) + 1) = (L : Int) + 1 := IntWalk.i64_in _ (by omega)
      have FB := Lib.hid (morgan_both (k := k) HOA.out HOB.out (by rw [HLA.out, HLB.out]; omega) hl.symm (L := L) (by rw [HLA.out, HLB.out, hLn]))
      have FN := Lib.hid (morgan_nots (k := k) HOA.out HOB.out (by rw [HLA.out, HLB.out]; omega) hl.symm (L := L) (by rw [HLA.out, HLB.out, hLn]))
      have FS := Lib.hid (morgan_two (k := k) HOA.out HOB.out (by rw [HLA.out, HLB.out]; omega) hl.symm (L := L) (by rw [HLA.out, HLB.out, hLn]) 4 (.inr (.inl rfl)))
      have FO := Lib.hid (morgan_two (k := k) HOA.out HOB.out (by rw [HLA.out, HLB.out]; omega) hl.symm (L := L) (by rw [HLA.out, HLB.out, hLn]) 5 (.inr (.inr rfl)))
      rw [HLA.out] at FB FN FS FO
      have HO16 := Lib.hid hO
      have HK16 := Lib.hid HK.out
      clear HO HK hl hL hjm hO hglt hLn HROWB HINB
      go_upto_region 16 with fail
      have ha1 := (MapKept.heap_alloc wr (.cells #[] 58)).1
      have hk1 : Keeps (fun _ => False) wr (wr.alloc (.cells #[] 58)) := (Keeps.refl _ _).alloc _
      have HE1 := Lib.hid (own_empty (base := wr.heap.size) (size := 3) ha1 (Nat.le_refl _))
      have HC1 := Lib.hid ((HO16.out.quiet hk1).cells)
      clear ha1
      go_wp2_with (at_builtin; refine wpList_append_own _ rfl _ _ 46 rfl wr.heap.size 58 i0 _ 3 24 Try.underlying46 hi0 hz0 hz1 hz2 rfl (by decide) _ 0 [] rfl (HE1.out) ⟨g, 0, none⟩ L c (spCells l) rfl (by rw [spCells_length, HLL.out]) HC1.out (sp_one l) (by unfold maxLen; omega) (by omega) (by have := hk1.size; omega) ?_)
      intro va1 wa1 howna1 hgrowa1 _
      have ka1 : Keeps (fun _ => False) wr wa1 := hk1.trans_new (keeps_grown hgrowa1) (fun i hi e => by simp only [Value.ownBlock, Option.some.injEq] at e; omega)
      have HWA1 := Lib.hid howna1
      have KA1 := Lib.hid ka1
      clear howna1 hgrowa1 ka1 HE1 HC1 hk1
      go_wp2_with (at_builtin; refine wpList_append_own _ rfl _ _ 46 rfl wr.heap.size 58 i0 _ 3 24 Try.underlying46 hi0 hz0 hz1 hz2 rfl (by decide) _ _ _ rfl (HWA1.out.alloc _) ⟨wa1.heap.size, 0, none⟩ 2 2 [.int .i64 3, .int .i64 ((n : Int) - 1), .int .i64 ((L : Int) - 1), .int .i64 2, .int .i64 (L : Int), .int .i64 0] rfl rfl (cells_new wa1 _ _) (by intro u hu; simp only [List.mem_cons, List.not_mem_nil, or_false] at hu; rcases hu with rfl | rfl | rfl | rfl | rfl | rfl <;> rfl) (by unfold maxLen; omega) (by omega) (by have := KA1.out.size; simp; omega) ?_)
      intro vb1 wb1 hownb1 hgrowb1 _
      have kb1 : Keeps (fun _ => False) wr wb1 := (KA1.out.alloc _).trans_new (keeps_grown hgrowb1) (fun i hi e => by have := own_block HWA1.out i e; omega)
      have hlen1 : (l ++ [⟨3, ((n : Int) - 1), ((L : Int) - 1)⟩] ++ [⟨2, (L : Int), 0⟩] : List Sp).length = L + 2 := by simp only [List.length_append, List.length_cons, List.length_nil, HLL.out]
      have hcs1 : spCells (l ++ [⟨3, ((n : Int) - 1), ((L : Int) - 1)⟩] ++ [⟨2, (L : Int), 0⟩]) = spCells l ++ [.int .i64 3, .int .i64 ((n : Int) - 1), .int .i64 ((L : Int) - 1), .int .i64 2, .int .i64 (L : Int), .int .i64 0] := by simp only [spCells_append, List.append_assoc]; rfl
      have hob1 : wb1.ownsRow wr.heap.size 58 3 vb1 (l ++ [⟨3, ((n : Int) - 1), ((L : Int) - 1)⟩] ++ [⟨2, (L : Int), 0⟩] : List Sp).length (spCells (l ++ [⟨3, ((n : Int) - 1), ((L : Int) - 1)⟩] ++ [⟨2, (L : Int), 0⟩])) := by rw [hlen1, hcs1]; exact hownb1
      obtain ⟨so1, c1, rfl, hc1, hr1, _⟩ := own_sps hob1
      rw [hlen1] at hc1 ⊢
      have HR1 := Lib.hid hr1
      have HL1 := Lib.hid hlen1
      have KB1 := Lib.hid kb1
      clear hownb1 hgrowb1 kb1 hcs1 hob1 hr1 hlen1 HWA1 KA1
      have HO17 := Lib.hid (HO16.out.quiet KB1.out)
      have HK17 : Hid (Keeps (fun x => w.heap.size ≤ x) w wb1) := HK16.out.trans_new KB1.out (fun _ _ x => x.elim)
      clear HO16 HK16 KB1
      go_upto_region 17 with fail
      have ha2 := (MapKept.heap_alloc wb1 (.cells #[] 58)).1
      have hk2 : Keeps (fun _ => False) wb1 (wb1.alloc (.cells #[] 58)) := (Keeps.refl _ _).alloc _
      have HE2 := Lib.hid (own_empty (base := wb1.heap.size) (size := 3) ha2 (Nat.le_refl _))
      have HC2 := Lib.hid ((HO17.out.quiet hk2).cells)
      clear ha2
      go_wp2_with (at_builtin; refine wpList_append_own _ rfl _ _ 46 rfl wb1.heap.size 58 i0 _ 3 24 Try.underlying46 hi0 hz0 hz1 hz2 rfl (by decide) _ 0 [] rfl (HE2.out) ⟨g, 0, none⟩ L c (spCells l) rfl (by rw [spCells_length, HLL.out]) HC2.out (sp_one l) (by unfold maxLen; omega) (by omega) (by have := hk2.size; omega) ?_)
      intro va2 wa2 howna2 hgrowa2 _
      have ka2 : Keeps (fun _ => False) wb1 wa2 := hk2.trans_new (keeps_grown hgrowa2) (fun i hi e => by simp only [Value.ownBlock, Option.some.injEq] at e; omega)
      have HWA2 := Lib.hid howna2
      have KA2 := Lib.hid ka2
      clear howna2 hgrowa2 ka2 HE2 HC2 hk2
      go_wp2_with (at_builtin; refine wpList_append_own _ rfl _ _ 46 rfl wb1.heap.size 58 i0 _ 3 24 Try.underlying46 hi0 hz0 hz1 hz2 rfl (by decide) _ _ _ rfl (HWA2.out.alloc _) ⟨wa2.heap.size, 0, none⟩ 3 3 [.int .i64 2, .int .i64 ((n : Int) - 1), .int .i64 0, .int .i64 2, .int .i64 ((L : Int) - 1), .int .i64 0, .int .i64 4, .int .i64 (L : Int), .int .i64 ((L : Int) + 1)] rfl rfl (cells_new wa2 _ _) (by intro u hu; simp only [List.mem_cons, List.not_mem_nil, or_false] at hu; rcases hu with rfl | rfl | rfl | rfl | rfl | rfl | rfl | rfl | rfl <;> rfl) (by unfold maxLen; omega) (by omega) (by have := KA2.out.size; simp; omega) ?_)
      intro vb2 wb2 hownb2 hgrowb2 _
      have kb2 : Keeps (fun _ => False) wb1 wb2 := (KA2.out.alloc _).trans_new (keeps_grown hgrowb2) (fun i hi e => by have := own_block HWA2.out i e; omega)
      have hlen2 : (l ++ [⟨2, ((n : Int) - 1), 0⟩] ++ [⟨2, ((L : Int) - 1), 0⟩] ++ [⟨4, (L : Int), ((L : Int) + 1)⟩] : List Sp).length = L + 3 := by simp only [List.length_append, List.length_cons, List.length_nil, HLL.out]
      have hcs2 : spCells (l ++ [⟨2, ((n : Int) - 1), 0⟩] ++ [⟨2, ((L : Int) - 1), 0⟩] ++ [⟨4, (L : Int), ((L : Int) + 1)⟩]) = spCells l ++ [.int .i64 2, .int .i64 ((n : Int) - 1), .int .i64 0, .int .i64 2, .int .i64 ((L : Int) - 1), .int .i64 0, .int .i64 4, .int .i64 (L : Int), .int .i64 ((L : Int) + 1)] := by simp only [spCells_append, List.append_assoc]; rfl
      have hob2 : wb2.ownsRow wb1.heap.size 58 3 vb2 (l ++ [⟨2, ((n : Int) - 1), 0⟩] ++ [⟨2, ((L : Int) - 1), 0⟩] ++ [⟨4, (L : Int), ((L : Int) + 1)⟩] : List Sp).length (spCells (l ++ [⟨2, ((n : Int) - 1), 0⟩] ++ [⟨2, ((L : Int) - 1), 0⟩] ++ [⟨4, (L : Int), ((L : Int) + 1)⟩])) := by rw [hlen2, hcs2]; exact hownb2
      obtain ⟨so2, c2, rfl, hc2, hr2, _⟩ := own_sps hob2
      rw [hlen2] at hc2 ⊢
      have HR2 := Lib.hid hr2
      have HL2 := Lib.hid hlen2
      have KB2 := Lib.hid kb2
      clear hownb2 hgrowb2 kb2 hcs2 hob2 hr2 hlen2 HWA2 KA2
      have HO18 := Lib.hid (HO17.out.quiet KB2.out)
      have HR1B := Lib.hid (HR1.out.quiet KB2.out)
      have HK18 : Hid (Keeps (fun x => w.heap.size ≤ x) w wb2) := HK17.out.trans_new KB2.out (fun _ _ x => x.elim)
      clear HO17 HK17 KB2 HR1
      have HNEW : Hid (Calls Try.prog 13 #[.int .i64 (k : Int), .int .i64 1048576] wb2 fun e W' => ∃ db Fp, e = .returned (.pointer (some ⟨db, 0, none⟩)) ∧ Hid (Bd W' db k 1048576 st0 0 Fp ∧ Keeps (fun _ => False) wb2 W' ∧ ∀ x, Fp x → wb2.heap.size ≤ x)) := bnew_spec wb2 k 1048576 k 1048576 (by omega) (by omega) rfl ⟨by omega, rfl⟩
      go_wp2_with fail
      refine HNEW.out.mono ?_
      rintro e w5 ⟨db, F0, rfl, hd⟩
      have HB5 : Hid (BK wb2 w5 db k st0 0 0 F0) := bk_new (Keeps.refl _ _) hd.out.1 hd.out.2.1 hd.out.2.2
      clear hd HNEW
      have FXa := FB
      have FXb := FN
      have FXs := FS
      have FXo := FO
      have HSa := Lib.hid (steps_spec w5 (l := l ++ [⟨3, ((n : Int) - 1), ((L : Int) - 1)⟩] ++ [⟨2, (L : Int), 0⟩]) (n := L + 2) HL1.out hc1 (by omega) (HR1B.out.old HB5.out.kp))
      go_wp2_with fail
      refine HSa.out.mono ?_
      rintro e wsa ⟨ssa, csa, rfl, hcsa, hsa⟩
      have HBSa := Lib.hid (HB5.out.quiet hsa.out.1)
      have HBDa := Lib.hid (HBSa.out.build hk8 HL1.out hcsa (by omega) hsa.out.2.1 (fun b off e hF => by have h1 := hsa.out.2.2 b off e; have := HB5.out.bd.lt b hF; omega) FXa.out.1)
      clear HB5 HSa hsa
      go_wp2_with fail
      refine HBDa.out.mono ?_
      rintro e w6 ⟨f, sta, cca, Fa, rfl, hba⟩
      have HBw6 := Lib.hid hba.out.1
      have HEa := Lib.hid hba.out.2.1
      have HXa : Hid (isN sta.n f = true ∧ ∀ β, ev sta.L β f = atE β (l ++ [⟨3, ((n : Int) - 1), ((L : Int) - 1)⟩] ++ [⟨2, (L : Int), 0⟩])) := ⟨hba.out.2.2.1, hba.out.2.2.2.1⟩
      have HGa := Lib.hid HBw6.out.fine.wf.ok.good
      clear hba HBSa HBDa hcsa
      have HSb := Lib.hid (steps_spec w6 (l := l ++ [⟨2, ((n : Int) - 1), 0⟩] ++ [⟨2, ((L : Int) - 1), 0⟩] ++ [⟨4, (L : Int), ((L : Int) + 1)⟩]) (n := L + 3) HL2.out hc2 (by omega) (HR2.out.old HBw6.out.kp))
      go_wp2_with fail
      refine HSb.out.mono ?_
      rintro e wsb ⟨ssb, csb, rfl, hcsb, hsb⟩
      have HBSb := Lib.hid (HBw6.out.quiet hsb.out.1)
      have HBDb := Lib.hid (HBSb.out.build hk8 HL2.out hcsb (by omega) hsb.out.2.1 (fun b off e hF => by have h1 := hsb.out.2.2 b off e; have := HBw6.out.bd.lt b hF; omega) FXb.out.1)
      clear HBw6 HSb hsb
      go_wp2_with fail
      refine HBDb.out.mono ?_
      rintro e w7 ⟨gg, stb, ccb, Fb, rfl, hbb⟩
      have HBw7 := Lib.hid hbb.out.1
      have HEb := Lib.hid hbb.out.2.1
      have HXb : Hid (isN stb.n gg = true ∧ ∀ β, ev stb.L β gg = atE β (l ++ [⟨2, ((n : Int) - 1), 0⟩] ++ [⟨2, ((L : Int) - 1), 0⟩] ++ [⟨4, (L : Int), ((L : Int) + 1)⟩])) := ⟨hbb.out.2.2.1, hbb.out.2.2.2.1⟩
      have HGb := Lib.hid HBw7.out.fine.wf.ok.good
      clear hbb HBSb HBDb hcsb
      have HOs := Lib.hid (HO18.out.old HBw7.out.kp)
      go_upto_region 21 with fail
      have ha3 := (MapKept.heap_alloc w7 (.cells #[] 58)).1
      have hk3 : Keeps (fun _ => False) w7 (w7.alloc (.cells #[] 58)) := (Keeps.refl _ _).alloc _
      have HE3 := Lib.hid (own_empty (base := w7.heap.size) (size := 3) ha3 (Nat.le_refl _))
      have HC3 := Lib.hid ((HOs.out.quiet hk3).cells)
      clear ha3
      go_wp2_with (at_builtin; refine wpList_append_own _ rfl _ _ 46 rfl w7.heap.size 58 i0 _ 3 24 Try.underlying46 hi0 hz0 hz1 hz2 rfl (by decide) _ 0 [] rfl (HE3.out) ⟨g, 0, none⟩ L c (spCells l) rfl (by rw [spCells_length, HLL.out]) HC3.out (sp_one l) (by unfold maxLen; omega) (by omega) (by have := hk3.size; omega) ?_)
      intro va3 wa3 howna3 hgrowa3 _
      have ka3 : Keeps (fun _ => False) w7 wa3 := hk3.trans_new (keeps_grown hgrowa3) (fun i hi e => by simp only [Value.ownBlock, Option.some.injEq] at e; omega)
      have HWA3 := Lib.hid howna3
      have KA3 := Lib.hid ka3
      clear howna3 hgrowa3 ka3 HE3 HC3 hk3
      go_wp2_with (at_builtin; refine wpList_append_own _ rfl _ _ 46 rfl w7.heap.size 58 i0 _ 3 24 Try.underlying46 hi0 hz0 hz1 hz2 rfl (by decide) _ _ _ rfl (HWA3.out.alloc _) ⟨wa3.heap.size, 0, none⟩ 1 1 [.int .i64 4, .int .i64 ((n : Int) - 1), .int .i64 ((L : Int) - 1)] rfl rfl (cells_new wa3 _ _) (by intro u hu; simp only [List.mem_cons, List.not_mem_nil, or_false] at hu; rcases hu with rfl | rfl | rfl <;> rfl) (by unfold maxLen; omega) (by omega) (by have := KA3.out.size; simp; omega) ?_)
      intro vb3 wb3 hownb3 hgrowb3 _
      have kb3 : Keeps (fun _ => False) w7 wb3 := (KA3.out.alloc _).trans_new (keeps_grown hgrowb3) (fun i hi e => by have := own_block HWA3.out i e; omega)
      have hlen3 : (l ++ [⟨4, ((n : Int) - 1), ((L : Int) - 1)⟩] : List Sp).length = L + 1 := by simp only [List.length_append, List.length_cons, List.length_nil, HLL.out]
      have hcs3 : spCells (l ++ [⟨4, ((n : Int) - 1), ((L : Int) - 1)⟩]) = spCells l ++ [.int .i64 4, .int .i64 ((n : Int) - 1), .int .i64 ((L : Int) - 1)] := by simp only [spCells_append, List.append_assoc]; rfl
      have hob3 : wb3.ownsRow w7.heap.size 58 3 vb3 (l ++ [⟨4, ((n : Int) - 1), ((L : Int) - 1)⟩] : List Sp).length (spCells (l ++ [⟨4, ((n : Int) - 1), ((L : Int) - 1)⟩])) := by rw [hlen3, hcs3]; exact hownb3
      obtain ⟨so3, c3, rfl, hc3, hr3, _⟩ := own_sps hob3
      rw [hlen3] at hc3 ⊢
      have HR3 := Lib.hid hr3
      have HL3 := Lib.hid hlen3
      have KB3 := Lib.hid kb3
      clear hownb3 hgrowb3 kb3 hcs3 hob3 hr3 hlen3 HWA3 KA3
      have HBQs := Lib.hid (HBw7.out.quiet KB3.out)
      clear HBw7 KB3 HOs
      have HSs := Lib.hid (steps_spec wb3 (l := l ++ [⟨4, ((n : Int) - 1), ((L : Int) - 1)⟩]) (n := L + 1) HL3.out hc3 (by omega) HR3.out)
      go_wp2_with fail
      refine HSs.out.mono ?_
      rintro e wss ⟨sss, css, rfl, hcss, hss⟩
      have HBSs := Lib.hid (HBQs.out.quiet hss.out.1)
      have HBDs := Lib.hid (HBSs.out.build hk8 HL3.out hcss (by omega) hss.out.2.1 (fun b off e hF => by have h1 := hss.out.2.2 b off e; have := HBQs.out.bd.lt b hF; omega) FXs.out.1)
      clear HBQs HSs hss
      go_wp2_with fail
      refine HBDs.out.mono ?_
      rintro e w8 ⟨some1, sts, ccs, Fs, rfl, hbs⟩
      have HBw8 := Lib.hid hbs.out.1
      have HEs := Lib.hid hbs.out.2.1
      have HXs : Hid (isN sts.n some1 = true ∧ ∀ β, ev sts.L β some1 = atE β (l ++ [⟨4, ((n : Int) - 1), ((L : Int) - 1)⟩])) := ⟨hbs.out.2.2.1, hbs.out.2.2.2.1⟩
      have HGs := Lib.hid HBw8.out.fine.wf.ok.good
      clear hbs HBSs HBDs hcss
      have HOo := Lib.hid (HO18.out.old HBw8.out.kp)
      go_upto_region 22 with fail
      have ha4 := (MapKept.heap_alloc w8 (.cells #[] 58)).1
      have hk4 : Keeps (fun _ => False) w8 (w8.alloc (.cells #[] 58)) := (Keeps.refl _ _).alloc _
      have HE4 := Lib.hid (own_empty (base := w8.heap.size) (size := 3) ha4 (Nat.le_refl _))
      have HC4 := Lib.hid ((HOo.out.quiet hk4).cells)
      clear ha4
      go_wp2_with (at_builtin; refine wpList_append_own _ rfl _ _ 46 rfl w8.heap.size 58 i0 _ 3 24 Try.underlying46 hi0 hz0 hz1 hz2 rfl (by decide) _ 0 [] rfl (HE4.out) ⟨g, 0, none⟩ L c (spCells l) rfl (by rw [spCells_length, HLL.out]) HC4.out (sp_one l) (by unfold maxLen; omega) (by omega) (by have := hk4.size; omega) ?_)
      intro va4 wa4 howna4 hgrowa4 _
      have ka4 : Keeps (fun _ => False) w8 wa4 := hk4.trans_new (keeps_grown hgrowa4) (fun i hi e => by simp only [Value.ownBlock, Option.some.injEq] at e; omega)
      have HWA4 := Lib.hid howna4
      have KA4 := Lib.hid ka4
      clear howna4 hgrowa4 ka4 HE4 HC4 hk4
      go_wp2_with (at_builtin; refine wpList_append_own _ rfl _ _ 46 rfl w8.heap.size 58 i0 _ 3 24 Try.underlying46 hi0 hz0 hz1 hz2 rfl (by decide) _ _ _ rfl (HWA4.out.alloc _) ⟨wa4.heap.size, 0, none⟩ 1 1 [.int .i64 5, .int .i64 ((n : Int) - 1), .int .i64 ((L : Int) - 1)] rfl rfl (cells_new wa4 _ _) (by intro u hu; simp only [List.mem_cons, List.not_mem_nil, or_false] at hu; rcases hu with rfl | rfl | rfl <;> rfl) (by unfold maxLen; omega) (by omega) (by have := KA4.out.size; simp; omega) ?_)
      intro vb4 wb4 hownb4 hgrowb4 _
      have kb4 : Keeps (fun _ => False) w8 wb4 := (KA4.out.alloc _).trans_new (keeps_grown hgrowb4) (fun i hi e => by have := own_block HWA4.out i e; omega)
      have hlen4 : (l ++ [⟨5, ((n : Int) - 1), ((L : Int) - 1)⟩] : List Sp).length = L + 1 := by simp only [List.length_append, List.length_cons, List.length_nil, HLL.out]
      have hcs4 : spCells (l ++ [⟨5, ((n : Int) - 1), ((L : Int) - 1)⟩]) = spCells l ++ [.int .i64 5, .int .i64 ((n : Int) - 1), .int .i64 ((L : Int) - 1)] := by simp only [spCells_append, List.append_assoc]; rfl
      have hob4 : wb4.ownsRow w8.heap.size 58 3 vb4 (l ++ [⟨5, ((n : Int) - 1), ((L : Int) - 1)⟩] : List Sp).length (spCells (l ++ [⟨5, ((n : Int) - 1), ((L : Int) - 1)⟩])) := by rw [hlen4, hcs4]; exact hownb4
      obtain ⟨so4, c4, rfl, hc4, hr4, _⟩ := own_sps hob4
      rw [hlen4] at hc4 ⊢
      have HR4 := Lib.hid hr4
      have HL4 := Lib.hid hlen4
      have KB4 := Lib.hid kb4
      clear hownb4 hgrowb4 kb4 hcs4 hob4 hr4 hlen4 HWA4 KA4
      have HBQo := Lib.hid (HBw8.out.quiet KB4.out)
      clear HBw8 KB4 HOo
      have HSo := Lib.hid (steps_spec wb4 (l := l ++ [⟨5, ((n : Int) - 1), ((L : Int) - 1)⟩]) (n := L + 1) HL4.out hc4 (by omega) HR4.out)
      go_wp2_with fail
      refine HSo.out.mono ?_
      rintro e wso ⟨sso, cso, rfl, hcso, hso⟩
      have HBSo := Lib.hid (HBQo.out.quiet hso.out.1)
      have HBDo := Lib.hid (HBSo.out.build hk8 HL4.out hcso (by omega) hso.out.2.1 (fun b off e hF => by have h1 := hso.out.2.2 b off e; have := HBQo.out.bd.lt b hF; omega) FXo.out.1)
      clear HBQo HSo hso
      go_wp2_with fail
      refine HBDo.out.mono ?_
      rintro e w9 ⟨one1, sto, cco, Fo, rfl, hbo⟩
      have HBw9 := Lib.hid hbo.out.1
      have HEo := Lib.hid hbo.out.2.1
      have HXo : Hid (isN sto.n one1 = true ∧ ∀ β, ev sto.L β one1 = atE β (l ++ [⟨5, ((n : Int) - 1), ((L : Int) - 1)⟩])) := ⟨hbo.out.2.2.1, hbo.out.2.2.2.1⟩
      have HGo := Lib.hid HBw9.out.fine.wf.ok.good
      clear hbo HBSo HBDo hcso
      obtain ⟨r, hr⟩ : ∃ r, opG sto (andT (k : Int) 1048576 [some1, f] (1, sto)) = r := ⟨_, rfl⟩
      have hfo : isN sto.n f = true := HEo.out.is (HEs.out.is (HEb.out.is HXa.out.1))
      have hso : isN sto.n some1 = true := HEo.out.is HXs.out.1
      have efo : ∀ β, ev sto.L β f = !(atE β a && atE β b) := fun β => by
        rw [HEo.out.ev HGs.out β (isN_iff.1 (HEs.out.is (HEb.out.is HXa.out.1))).2, HEs.out.ev HGb.out β (isN_iff.1 (HEb.out.is HXa.out.1)).2, HEb.out.ev HGa.out β (isN_iff.1 HXa.out.1).2, HXa.out.2, FB.out.2]
      have eso : ∀ β, ev sto.L β some1 = (atE β a || atE β b) := fun β => by
        rw [HEo.out.ev HGs.out β (isN_iff.1 HXs.out.1).2, HXs.out.2, FS.out.2]; rfl
      have ego : ∀ β, ev sto.L β gg = (!atE β a || !atE β b) := fun β => by
        rw [HEo.out.ev HGs.out β (isN_iff.1 (HEs.out.is HXb.out.1)).2, HEs.out.ev HGb.out β (isN_iff.1 HXb.out.1).2, HXb.out.2, FN.out.2]
      have eoo : ∀ β, ev sto.L β one1 = (atE β a != atE β b) := fun β => by
        rw [HXo.out.2, FO.out.2]; rfl
      have hfg : f = gg := once_bits HGo.out k rfl hfo (HEo.out.is (HEs.out.is HXb.out.1)) (fun q _ => by
        rw [efo, ego]
        cases atE q.testBit a <;> cases atE q.testBit b <;> rfl)
      have B1 := bld1_ok (V := (k : Int)) (B := 1048576) (kc := 2 * (0 + (L + 2) + (L + 3) + (L + 1) + (L + 1))) (by omega) (by omega) HBw9.out.fine (by
        have h1 := HBw9.out.n
        have h2 : 2 ^ ((k : Int)).toNat ≤ 256 := pow_V (by omega)
        omega) (F := fun j => if j = 0 then some1 else f) (fun j => by show isN sto.n (if j = 0 then some1 else f) = true; split; exact hso; exact hfo) (i := 2) (s := ⟨3, 0, 1⟩) (.inr (.inr (.inl ⟨.inl rfl, by simp only []; omega, by simp only []; omega, by simp only []; omega, by simp only []; omega⟩)))
      have hB1 : bld1 (k : Int) 1048576 (fun j => if j = 0 then some1 else f) sto ⟨3, 0, 1⟩ = r := hr
      rw [hB1] at B1
      have hone : one1 = r.1 := once_bits B1.fine.wf.ok.good k rfl (B1.ext.is HXo.out.1) B1.isr (fun q _ => by
        rw [B1.ext.ev HGo.out _ (isN_iff.1 HXo.out.1).2, eoo, B1.ev]
        show _ = (ev sto.L q.testBit some1 && ev sto.L q.testBit f)
        rw [efo, eso]
        cases atE q.testBit a <;> cases atE q.testBit b <;> rfl)
      have hkA : Keeps (fun _ => False) w9 (w9.alloc (.cells #[.int .i64 some1, .int .i64 f] 3)) := (Keeps.refl _ _).alloc _
      have hc9 := HBw9.out.c1
      have HAND : Hid (Calls Try.prog 36 #[.pointer (some ⟨db, 0, none⟩), .slice (some ⟨w9.heap.size, 0, none⟩) 2 2] (w9.alloc (.cells #[.int .i64 some1, .int .i64 f] 3)) fun e W' => e = .returned (.int .i64 one1) ∧ Keeps (fun x => wb2.heap.size ≤ x) wb2 W') := by
        have q := band_spec (by omega) (by omega) (HBw9.out.bd.quiet hkA) HBw9.out.fine.wf (by omega) (l := [some1, f]) (by intro z hz; simp only [List.mem_cons, List.not_mem_nil, or_false] at hz; rcases hz with rfl | rfl; exact hso; exact hfo) (n := 2) rfl (Nat.le_refl 2) (by omega) (numRow2 (MapKept.heap_alloc w9 _).1) (fun b e hF => by simp only [Option.some.injEq, Addr.mk.injEq, and_true] at e; have := HBw9.out.bd.lt b hF; omega) HBw9.out.c0 (by omega)
        rw [hr] at q
        refine q.mono ?_
        rintro e W' ⟨rfl, hx⟩
        obtain ⟨F', h1, h2⟩ := hx.out
        exact ⟨by rw [hone], (HBw9.out.kp.trans_new hkA (fun _ _ x => x.elim)).trans_new h2.keeps (fun i _ hx => HBw9.out.fw i hx)⟩
      subst hfg
      have HK9 := Lib.hid HK18
      clear HO18 HXa HXb HXs HXo HEa HEb HEs HEo HGa HGb HGs HGo efo eso ego eoo B1 hB1 hr hone hkA FXa FXb FXs FXo FB FN FS FO hfo hso HBw9 HR1B HR2 HR3 HR4
      go_wp2_with fail
      refine HAND.out.mono ?_
      rintro e wx ⟨rfl, hkx⟩
      have HKX := Lib.hid hkx
      clear HAND hkx
      go_wp2_with fail
      refine (HL.out wx).mono ?_
      rintro e wy ⟨rfl, hb⟩
      have kk : Keeps (fun x => w.heap.size ≤ x) w wx := HK18.out.trans_new HKX.out (fun i hi hx => by have h2 : wb2.heap.size ≤ i := hx; have := HK18.out.size; show w.heap.size ≤ i; omega)
      go_wp2_with fail
      go_ret
      exact ⟨rfl, (kk.below (Nat.le_refl _) (fun x hx hs => by omega)).trans (hb.mono kk.size)⟩
end Go.Proofs.Ytipcgjigkipcpaa
