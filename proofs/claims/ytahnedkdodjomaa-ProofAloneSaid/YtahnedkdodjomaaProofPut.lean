/-
  A step more, if it is right.
-/
import Derived.Test.YtahnedkdodjomaaProofMay
set_option linter.unusedVariables false
set_option linter.unusedSimpArgs false
set_option linter.unnecessarySimpa false
namespace Go.Proofs.Ytahnedkdodjomaa
open Go.ChangeShapes Go.WideShapes Go.ChangeAt Go.RowKit Go.Deep SetPlain
theorem spInfo : (Try.prog.info? 30).map (fun i => (i.zero, i.size, i.bytes)) = some (some (.agg #[.int .i64 0, .int .i64 0, .int .i64 0, .int .i64 0]), 4, 32) := by kernel_rfl
theorem step_mapUpdate {H : Type} {P : Program} {ops : Array Oper} {o : Oper} {a : Act} {w : World} {K : Act → World → Prop} {Q : Exit → Act → World → Prop} {E : Prop}
    (hg : o.guard = none) (m x v : Operand) (t : TypeId) (hop : o.op = Op.mapUpdate t m x v)
    (k e : TypeId) (KK : Go.Maps.Keyed P k) (ht : P.underlying t = some (.map k e)) (R : Value → Option (DataW H × List MemPlace)) (b n : Nat) (D : DataW H)
    (hm : a.eval m = .map (some b)) (hown : w.ownsMap P k R b n D) (hn : n < maxLen) (key val : Value) (kl : Lit) (hx : a.eval x = key) (hv : a.eval v = val) (hkey : keyOf P k key = some kl)
    (d : DataW H) (ps : List MemPlace) (hval : R val = some (d, ps))
    (hK : ∀ w', w'.ownsMap P k R b (n + 1) (D.put kl d) → w.grownBy w' (some b) → K (a.put o.dst undef) w') :
    if Region.wanted o (yielded ops a.tmps) = true then Oper.wp P o a w K Q else E := by
  have hw : Region.wanted o (yielded ops a.tmps) = true := by simp [Region.wanted, hg]
  rw [if_pos hw]
  obtain ⟨w', hrun, r1, r2⟩ := hown.update KK ht hn hkey hval
  unfold Oper.wp
  simp [execOp, hop, hm, hx, hv, hrun, Result.andThen]
  exact hK w' r1 r2
/-- From a world to one behind it. -/
structure KnTo (W W' : World) (kb mb : Nat) (vs vs' : Value) : Prop where
  keeps : Keeps (knFp kb mb vs) W W'
  fp : ∀ x, knFp kb mb vs' x → knFp kb mb vs x ∨ W.heap.size ≤ x
theorem KnTo.refl (W : World) (kb mb : Nat) (vs : Value) : KnTo W W kb mb vs vs := ⟨Keeps.refl _ _, fun _ h => .inl h⟩
theorem KnTo.quiet {W W' : World} {kb mb : Nat} {vs : Value} (h : Keeps (fun _ => False) W W') : KnTo W W' kb mb vs vs := ⟨h.mono (fun _ _ x => x.elim), fun _ h => .inl h⟩
theorem KnTo.trans {W W1 W2 : World} {kb mb : Nat} {v0 v1 v2 : Value} (h : KnTo W W1 kb mb v0 v1) (k : KnTo W1 W2 kb mb v1 v2) : KnTo W W2 kb mb v0 v2 :=
  ⟨h.keeps.trans_new k.keeps (fun i hi hx => (h.fp i hx).resolve_right (by omega)), fun x hx => (k.fp x hx).elim (fun hx => h.fp x hx) (fun hx => .inr (Nat.le_trans h.keeps.size hx))⟩
def putL (p k : Int) (rs : List Rl) (l : List Sp) (s : Sp) : List Sp := if mayB p k rs l s = true then l ++ [s] else l
def PutPost' (W : World) (kb : Nat) (p k : Int) (ao : Option Addr) (n cap mb : Nat) (vs : Value) (l : List Sp) (b : Bool) (e : Ending) (W' : World) : Prop :=
  e = .returned (.bool b) ∧ ∃ vs', KnMem W' kb p k ao n cap mb vs' l ∧ KnTo W W' kb mb vs vs'
section
variable {W : World} {kb : Nat} {p k : Int} {ao : Option Addr} {n cap mb : Nat} {vs : Value} {l : List Sp}
theorem KnMem.nes (h : KnMem W kb p k ao n cap mb vs l) : kb ≠ mb ∧ vs.ownBlock ≠ some kb ∧ vs.ownBlock ≠ some mb :=
  ⟨fun e => h.map.ne h.obj e.symm, h.row.type h.obj (by decide), fun e => by obtain ⟨cur, hc⟩ := h.row.lt _ e; exact h.map.ne hc rfl⟩
/-- What an append and the store of its row leave. -/
theorem put_end (h : KnMem W kb p k ao n cap mb vs l) {s : Sp} (hr : I64 s.role) (hw : I64 s.who) (hn : atF l s.role s.who = none) {D : DataW Unit}
    (hD : ∀ a b, I64 a → I64 b → Maps.has D (fkey a b) = (atF l a b).isSome ∧ D.atKey (fkey a b) (.lit (.int .i64 0)) = .lit (.int .i64 (atN l a b : Int))) (hM : Maps.IsMap D)
    {w1 wb w2 : World} (h1 : w1.ownsMap Try.prog 57 (plainElem (H := Unit) Try.prog 3) mb (l.length + 1) (D.put (fkey s.role s.who) (.lit (.int .i64 (l.length : Int))))) (g1 : W.grownBy w1 (some mb))
    (kq : Keeps (fun _ => False) w1 wb) {ao2 : Option Addr} {cap2 : Nat}
    (h2 : TailRow w2 30 4 (.slice ao2 (l.length + 1) cap2) (l.length + 1) (spCells l ++ s.cells)) (g2 : wb.grownBy w2 vs.ownBlock)
    (f2 : ∀ x, (Value.slice ao2 (l.length + 1) cap2).ownBlock = some x → vs.ownBlock = some x ∨ wb.heap.size ≤ x) :
    KnMem (w2.setCell ⟨kb, 4, none⟩ (.slice ao2 (l.length + 1) cap2)) kb p k ao n cap mb (.slice ao2 (l.length + 1) cap2) (l ++ [s]) ∧ KnTo W (w2.setCell ⟨kb, 4, none⟩ (.slice ao2 (l.length + 1) cap2)) kb mb vs (.slice ao2 (l.length + 1) cap2) ∧ w2.frozen? ⟨kb, 4, none⟩ = false ∧ w2.cell? ⟨kb, 4, none⟩ = some vs := by
  obtain ⟨n1, n2, n3⟩ := h.nes
  have k1 := keeps_grown g1
  have k2 := keeps_grown g2
  have lk := lt_of_heap h.obj
  have lm : mb < W.heap.size := h.lt _ (.inr (.inl rfl))
  have lb : W.heap.size ≤ wb.heap.size := Nat.le_trans k1.size kq.size
  have ob : wb.heap[kb]? = some _ := (kq.block _ (Nat.lt_of_lt_of_le lk k1.size) (fun x => x)).trans ((k1.block _ lk (fun e => n1 (by cases e; rfl))).trans h.obj)
  have o2 := (k2.block _ (lt_of_heap ob) (fun e => n2 e)).trans ob
  have m1 : KnMap w1 mb (l ++ [s]) := KnMap.put hr hw hn hD hM h1
  have m2 : KnMap w2 mb (l ++ [s]) := (m1.keeps kq (fun x => x)).keeps k2 (fun e => n3 e)
  have k3 := Keeps.setCell (S := fun x => x = kb) (Keeps.refl _ w2) (p := ⟨kb, 4, none⟩) (fun _ => rfl) (.slice ao2 (l.length + 1) cap2)
  have nv : (Value.slice ao2 (l.length + 1) cap2).ownBlock ≠ some kb := fun e => by
    rcases f2 _ e with e | e
    · exact n2 e
    · omega
  refine ⟨⟨?_, m2.keeps k3 (fun e => n1 e.symm), ?_⟩, ⟨?_, ?_⟩, free_of_heap o2 4, by rw [cell_of_heap o2]; rfl⟩
  · rw [heap_set o2]; rfl
  · rw [List.length_append, spCells_append]
    have := h2.keeps k3 (fun x hx e => by subst e; exact nv hx)
    rw [show spCells [s] = s.cells from by simp [spCells]]
    exact this
  · have ka : Keeps (knFp kb mb vs) W w1 := k1.mono (fun x _ e => .inr (.inl (by cases e; rfl)))
    have kb' : Keeps (knFp kb mb vs) W wb := ka.trans_new kq (fun _ _ x => x.elim)
    have kc : Keeps (knFp kb mb vs) W w2 := kb'.trans_new k2 (fun x _ e => .inr (.inr e))
    exact kc.trans_new k3 (fun x _ e => .inl e)
  · rintro x (e | e | e)
    · exact .inl (.inl e)
    · exact .inl (.inr (.inl e))
    · rcases f2 x e with e | e
      · exact .inl (.inr (.inr e))
      · exact .inr (by omega)
end
set_option maxRecDepth 100000
set_option maxHeartbeats 3200000
theorem put_yes {W : World} {kb : Nat} {p k : Int} {ao : Option Addr} {n cap mb : Nat} {vs : Value} {l : List Sp} (h : KnMem W kb p k ao n cap mb vs l) (hl : l.length ≤ 1000000) (rule role who mid : Int) (hr : I64 role) (hw : I64 who) (hn : atF l role who = none)
    (HM : Hid (∀ W', Keeps (fun _ => False) W W' → Calls Try.prog 31 #[.pointer (some ⟨kb, 0, none⟩), .agg #[.int .i64 rule, .int .i64 role, .int .i64 who, .int .i64 mid]] W' fun e W2 => e = .returned (.bool true) ∧ Below W'.heap.size W' W2)) :
    Calls Try.prog 22 #[.pointer (some ⟨kb, 0, none⟩), .agg #[.int .i64 rule, .int .i64 role, .int .i64 who, .int .i64 mid]] W (PutPost' W kb p k ao n cap mb vs (l ++ [⟨rule, role, who, mid⟩]) true) := by
  have HA : Hid (∀ wA, Below (W.alloc (SpObj ⟨rule, role, who, mid⟩)).heap.size (W.alloc (SpObj ⟨rule, role, who, mid⟩)) wA → KnMem wA kb p k ao n cap mb vs l ∧ wA.heap[W.heap.size]? = some (SpObj ⟨rule, role, who, mid⟩) ∧ Keeps (fun _ => False) W wA) := fun wA hb => by
    have hal : (W.alloc (SpObj ⟨rule, role, who, mid⟩)).heap[W.heap.size]? = some (SpObj ⟨rule, role, who, mid⟩) := (MapKept.heap_alloc W _).1
    have hk0 : Keeps (fun _ => False) W (W.alloc (SpObj ⟨rule, role, who, mid⟩)) := (Keeps.refl _ _).alloc _
    have hk := Keeps.of_below (S := fun _ => False) hb (Nat.le_refl _)
    exact ⟨h.quiet (hk0.trans hk), (hk.block _ (lt_of_heap hal) (fun x => x)).trans hal, hk0.trans hk⟩
  have HR2 := Lib.hid (HM.out (W.alloc (SpObj ⟨rule, role, who, mid⟩)) ((Keeps.refl _ _).alloc _))
  obtain ⟨so, sc, rfl, hle, hmx, _, _⟩ := h.row.form
  obtain ⟨i0, hi0, hz0, hz1', hz2⟩ := info_parts spInfo
  have HL := Lib.hid (h.nes)
  have HLT := Lib.hid (h.lt)
  clear h HM
  go_enter Try.func22, Try.ntmps22
  go_upto_region 1 with fail
  go_wp2_with (go_at_call 31; refine HR2.out.mono ?_; rintro e wA ⟨rfl, hka⟩; obtain ⟨hmA, hbx, hkA⟩ := HA.out wA hka; clear hka)
  clear HA HR2
  obtain ⟨D, hown, hD⟩ := hmA.map
  have hisM := Lib.hid (hown.isMap)
  have HD := Lib.hid hD
  have hkey := fact_key hr hw
  obtain ⟨c0, c1, c2, c3, c4⟩ := hmA.cells
  unfold SpObj at hbx
  have b0 := cell_of_heap hbx 0
  have b1 := cell_of_heap hbx 1
  have b2 := cell_of_heap hbx 2
  have b3 := cell_of_heap hbx 3
  simp only [List.getElem?_toArray, List.getElem?_cons_zero, List.getElem?_cons_succ] at b0 b1 b2 b3
  have H0 : (fun w' => w'.cell? ⟨kb, 3, none⟩ = some (.map (some mb)) ∧ w'.cell? ⟨kb, 4, none⟩ = some (.slice so l.length sc) ∧ w'.cell? ⟨W.heap.size, 1, none⟩ = some (.int .i64 role) ∧ w'.cell? ⟨W.heap.size, 2, none⟩ = some (.int .i64 who)) wA.drew := ⟨c3, c4, b1, b2⟩
  have HMA := Lib.hid hmA
  have HKA := Lib.hid hkA
  have HBX := Lib.hid hbx
  have hown' := hown.drew
  clear hD hown c0 c1 c2 c3 c4 b0 b1 b2 b3 hmA hkA hbx
  refine wp_region_noPanic ?_
  refine wp_region_held_drew (S := (fun w' => w'.cell? ⟨kb, 3, none⟩ = some (.map (some mb)) ∧ w'.cell? ⟨kb, 4, none⟩ = some (.slice so l.length sc) ∧ w'.cell? ⟨W.heap.size, 1, none⟩ = some (.int .i64 role) ∧ w'.cell? ⟨W.heap.size, 2, none⟩ = some (.int .i64 who))) (by kernel_rfl) H0 (fun hHeld => ?_)
  refine wpAnyH_take_at (i := 0) (v := ?v0) rfl (by kernel_rfl) (by kernel_rfl) (by kernel_rfl) (fun _ _ _ h => h) (Or.inl ⟨by rfl, ?y0⟩) hHeld ?r0
  case y0 => (intro w hSw; (try dsimp only at hSw); go_simp; first | done | with_reducible rfl)
  (try simp only [Act.put, List.setIfInBounds_toArray, List.set_cons_zero, List.set_cons_succ])
  refine wpAnyH_take_at (i := 1) (v := ?v1) rfl (by kernel_rfl) (by kernel_rfl) (by kernel_rfl) (fun _ _ _ h => h) (Or.inl ⟨by rfl, ?y1⟩) hHeld ?r1
  case y1 => (intro w hSw; (try dsimp only at hSw); go_simp; first | done | with_reducible rfl)
  (try simp only [Act.put, List.setIfInBounds_toArray, List.set_cons_zero, List.set_cons_succ])
  refine wpAnyH_take_at (i := 2) (v := ?v2) rfl (by kernel_rfl) (by kernel_rfl) (by kernel_rfl) (fun _ _ _ h => h) (Or.inl ⟨by rfl, ?y2⟩) hHeld ?r2
  case y2 => (intro w hSw; (try dsimp only at hSw); go_simp; first | done | with_reducible rfl)
  (try simp only [Act.put, List.setIfInBounds_toArray, List.set_cons_zero, List.set_cons_succ])
  refine wpAnyH_take_at (i := 3) (v := ?v3) rfl (by kernel_rfl) (by kernel_rfl) (by kernel_rfl) (fun _ _ _ h => h) (Or.inl ⟨by rfl, ?y3⟩) hHeld ?r3
  case y3 => (intro w hSw; (try dsimp only at hSw); go_simp; first | done | with_reducible rfl)
  (try simp only [Act.put, List.setIfInBounds_toArray, List.set_cons_zero, List.set_cons_succ])
  refine wpAnyH_take_at (i := 4) (v := ?v4) rfl (by kernel_rfl) (by kernel_rfl) (by kernel_rfl) (fun _ _ _ h => h) (Or.inl ⟨by rfl, ?y4⟩) hHeld ?r4
  case y4 => (intro w hSw; (try dsimp only at hSw); go_simp; first | done | with_reducible rfl)
  (try simp only [Act.put, List.setIfInBounds_toArray, List.set_cons_zero, List.set_cons_succ])
  refine wpAnyH_take_at (i := 5) (v := ?v5) rfl (by kernel_rfl) (by kernel_rfl) (by kernel_rfl) (fun _ _ _ h => h) (Or.inl ⟨by rfl, ?y5⟩) hHeld ?r5
  case y5 => (intro w hSw; (try dsimp only at hSw); go_simp; first | done | with_reducible rfl)
  (try simp only [Act.put, List.setIfInBounds_toArray, List.set_cons_zero, List.set_cons_succ])
  refine wpAnyH_take_at (i := 6) (v := ?v6) rfl (by kernel_rfl) (by kernel_rfl) (by kernel_rfl) (fun _ _ _ h => h) (Or.inl ⟨by rfl, ?y6⟩) hHeld ?r6
  case y6 => (intro w hSw; (try dsimp only at hSw); go_simp; first | done | with_reducible rfl)
  (try simp only [Act.put, List.setIfInBounds_toArray, List.set_cons_zero, List.set_cons_succ])
  refine wpAnyH_take_at (i := 7) (v := ?v7) rfl (by kernel_rfl) (by kernel_rfl) (by kernel_rfl) (fun _ _ _ h => h) (Or.inl ⟨by rfl, ?y7⟩) hHeld ?r7
  case y7 => (intro w hSw; (try dsimp only at hSw); go_simp; first | done | with_reducible rfl)
  (try simp only [Act.put, List.setIfInBounds_toArray, List.set_cons_zero, List.set_cons_succ])
  refine wpAnyH_take_at (i := 8) (v := ?v8) rfl (by kernel_rfl) (by kernel_rfl) (by kernel_rfl) (fun _ _ _ h => h) (Or.inl ⟨by rfl, ?y8⟩) hHeld ?r8
  case y8 => (intro w hSw; (try dsimp only at hSw); go_simp; first | done | with_reducible rfl)
  (try simp only [Act.put, List.setIfInBounds_toArray, List.set_cons_zero, List.set_cons_succ])
  refine wpAnyH_take_at (i := 9) (v := ?v9) rfl (by kernel_rfl) (by kernel_rfl) (by kernel_rfl) (fun _ _ _ h => h) (Or.inl ⟨by rfl, ?y9⟩) hHeld ?r9
  case y9 => (intro w hSw; (try dsimp only at hSw); go_simp; first | done | with_reducible rfl)
  (try simp only [Act.put, List.setIfInBounds_toArray, List.set_cons_zero, List.set_cons_succ])
  refine wpAnyH_take_at (i := 10) (v := ?v10) rfl (by kernel_rfl) (by kernel_rfl) (by kernel_rfl) (fun _ _ _ h => h) (Or.inl ⟨by rfl, ?y10⟩) hHeld ?r10
  case y10 => (intro w hSw; (try dsimp only at hSw); go_simp; first | done | with_reducible rfl)
  (try simp only [Act.put, List.setIfInBounds_toArray, List.set_cons_zero, List.set_cons_succ])
  refine wpAnyH_take_at (i := 11) (v := ?v11) rfl (by kernel_rfl) (by kernel_rfl) (by kernel_rfl) (fun _ _ _ h => h) (Or.inl ⟨by rfl, ?y11⟩) hHeld ?r11
  case y11 => (intro w hSw; (try dsimp only at hSw); go_simp; first | done | with_reducible rfl)
  (try simp only [Act.put, List.setIfInBounds_toArray, List.set_cons_zero, List.set_cons_succ])
  refine wpAnyH_take_at (i := 12) (v := ?v12) rfl (by kernel_rfl) (by kernel_rfl) (by kernel_rfl) (fun _ _ _ h => h) (Or.inl ⟨by rfl, ?y12⟩) hHeld ?r12
  case y12 => (intro w hSw; (try dsimp only at hSw); go_simp; first | done | with_reducible rfl)
  (try simp only [Act.put, List.setIfInBounds_toArray, List.set_cons_zero, List.set_cons_succ])
  refine wpAnyH_take_at (i := 13) (v := ?v13) rfl (by kernel_rfl) (by kernel_rfl) (by kernel_rfl) (fun _ _ _ h => h) (Or.inl ⟨by rfl, ?y13⟩) hHeld ?r13
  case y13 => (intro w hSw; (try dsimp only at hSw); go_simp; first | done | with_reducible rfl)
  (try simp only [Act.put, List.setIfInBounds_toArray, List.set_cons_zero, List.set_cons_succ])
  refine wpAnyH_one (i := 14) (by kernel_rfl) rfl (fun K hK => ?_)
  refine step_mapUpdate (H := Unit) rfl (.tmp 12) (.tmp 17) (.tmp 22) 53 rfl 57 3 fact_keyed Try.underlying53 (plainElem (H := Unit) Try.prog 3) mb l.length D (by simp [Act.eval, Act.put]) hown' (by unfold maxLen; omega) (.agg #[.int .i64 role, .int .i64 who]) (.int .i64 (l.length : Int)) (fkey role who) (by simp [Act.eval, Act.put]) (by simp [Act.eval, Act.put]) hkey (.lit (.int .i64 (l.length : Int))) [] (plainElem_int Try.underlying3 (wf_i64 (by unfold I64; omega))) ?_
  intro w1 h1 g1
  have hkg := keeps_grown g1
  have H1 : (fun w' => w'.cell? ⟨kb, 3, none⟩ = some (.map (some mb)) ∧ w'.cell? ⟨kb, 4, none⟩ = some (.slice so l.length sc) ∧ w'.cell? ⟨W.heap.size, 1, none⟩ = some (.int .i64 role) ∧ w'.cell? ⟨W.heap.size, 2, none⟩ = some (.int .i64 who)) w1 ∧ (fun w' => w'.cell? ⟨W.heap.size, 0, none⟩ = some (.int .i64 rule) ∧ w'.cell? ⟨W.heap.size, 1, none⟩ = some (.int .i64 role) ∧ w'.cell? ⟨W.heap.size, 2, none⟩ = some (.int .i64 who) ∧ w'.cell? ⟨W.heap.size, 3, none⟩ = some (.int .i64 mid)) w1 := by
    have hx := HBX.out
    have lx := lt_of_heap hx
    have nx : mb ≠ W.heap.size := fun e => by have := HLT.out mb (.inr (.inl rfl)); omega
    have ex : w1.heap[W.heap.size]? = _ := (hkg.block _ lx (fun e => nx (by cases e; rfl))).trans hx
    have ho := HMA.out.obj
    have ek : w1.heap[kb]? = _ := (hkg.block _ (lt_of_heap ho) (fun e => HL.out.1 (by cases e; rfl))).trans ho
    refine ⟨⟨?_, ?_, ?_, ?_⟩, ?_, ?_, ?_, ?_⟩ <;> first | (rw [cell_of_heap ek]; rfl) | (rw [cell_of_heap ex]; rfl)
  refine hK.out _ _ ?s14 (fun hHeld => ?_)
  case s14 => exact H1.1
  clear hK K
  (try simp only [Act.put, List.setIfInBounds_toArray, List.set_cons_zero, List.set_cons_succ])
  refine wpAnyH_done (by kernel_rfl) ?_ _
  refine NoPanic.normal ?_
  clear hHeld H0 hown' hkg
  have HO1 := Lib.hid h1
  have HG1 : Hid (wA.grownBy w1 (some mb)) := ⟨g1.os, g1.tape, g1.output, g1.size, g1.block⟩
  obtain ⟨⟨_, k4, _, _⟩, H1⟩ := H1
  have lkb := lt_of_cell k4
  have HRW : Hid (TailRow (w1.drew.alloc (.cells #[.int .i64 rule, .int .i64 role, .int .i64 who, .int .i64 mid] 30)) 30 4 (.slice so l.length sc) l.length (spCells l)) := by
    exact (HMA.out.row.keeps (keeps_grown HG1.out) (fun x hx e => HL.out.2.2 (by cases e; exact hx))).keeps (S := fun _ => False) (((Keeps.refl _ _).drew).alloc _) (fun _ _ x => x)
  have HEND : Hid (∀ w2 ao2 cap2, TailRow w2 30 4 (.slice ao2 (l.length + 1) cap2) (l.length + 1) (spCells l ++ [.int .i64 rule, .int .i64 role, .int .i64 who, .int .i64 mid]) → (w1.drew.alloc (.cells #[.int .i64 rule, .int .i64 role, .int .i64 who, .int .i64 mid] 30)).grownBy w2 (Value.slice so l.length sc).ownBlock → (∀ x, (Value.slice ao2 (l.length + 1) cap2).ownBlock = some x → (Value.slice so l.length sc).ownBlock = some x ∨ (w1.drew.alloc (.cells #[.int .i64 rule, .int .i64 role, .int .i64 who, .int .i64 mid] 30)).heap.size ≤ x) →
      (fun w' => w'.cell? ⟨W.heap.size, 0, none⟩ = some (.int .i64 rule) ∧ w'.cell? ⟨W.heap.size, 1, none⟩ = some (.int .i64 role) ∧ w'.cell? ⟨W.heap.size, 2, none⟩ = some (.int .i64 who) ∧ w'.cell? ⟨W.heap.size, 3, none⟩ = some (.int .i64 mid)) w2 ∧ (fun w' => w'.cell? ⟨W.heap.size, 0, none⟩ = some (.int .i64 rule) ∧ w'.cell? ⟨W.heap.size, 1, none⟩ = some (.int .i64 role) ∧ w'.cell? ⟨W.heap.size, 2, none⟩ = some (.int .i64 who) ∧ w'.cell? ⟨W.heap.size, 3, none⟩ = some (.int .i64 mid)) (w2.setCell ⟨kb, 4, none⟩ (.slice ao2 (l.length + 1) cap2)) ∧ w2.frozen? ⟨kb, 4, none⟩ = false ∧ w2.cell? ⟨kb, 4, none⟩ = some (.slice so l.length sc) ∧ Hid (PutPost' W kb p k ao n cap mb (.slice so l.length sc) (l ++ [⟨rule, role, who, mid⟩]) true (.returned (.bool true)) (w2.setCell ⟨kb, 4, none⟩ (.slice ao2 (l.length + 1) cap2)))) := fun w2 ao2 cap2 t2 g2 f2 => by
    have kq : Keeps (fun _ => False) w1 (w1.drew.alloc (.cells #[.int .i64 rule, .int .i64 role, .int .i64 who, .int .i64 mid] 30)) := ((Keeps.refl _ _).drew).alloc _
    obtain ⟨q1, q2, q3, q4⟩ := put_end HMA.out (s := ⟨rule, role, who, mid⟩) hr hw hn HD.out hisM.out HO1.out HG1.out kq t2 g2 f2
    have hx := HBX.out
    have lx := lt_of_heap hx
    have kg := keeps_grown g2
    have n1 : mb ≠ W.heap.size := fun e => by have := HLT.out mb (.inr (.inl rfl)); omega
    have n2 : (Value.slice so l.length sc).ownBlock ≠ some W.heap.size := fun e => by have := HLT.out W.heap.size (.inr (.inr e)); omega
    have n3 : kb ≠ W.heap.size := fun e => by have := HLT.out kb (.inl rfl); omega
    have e1 : w1.heap[W.heap.size]? = _ := ((keeps_grown HG1.out).block _ lx (fun e => n1 (by cases e; rfl))).trans hx
    have e2 := (kg.block _ (Nat.lt_of_lt_of_le (lt_of_heap e1) kq.size) (fun e => n2 e)).trans ((kq.block _ (lt_of_heap e1) (fun x => x)).trans e1)
    have k3 := Keeps.setCell (S := fun x => x = kb) (Keeps.refl _ w2) (p := ⟨kb, 4, none⟩) (fun _ => rfl) (.slice ao2 (l.length + 1) cap2)
    have e3 := (k3.block _ (lt_of_heap e2) (fun e => n3 e.symm)).trans e2
    refine ⟨⟨?_, ?_, ?_, ?_⟩, ⟨?_, ?_, ?_, ?_⟩, q3, q4, rfl, _, q1, (KnTo.quiet HKA.out).trans q2⟩
    all_goals first | (rw [cell_of_heap e3]; rfl) | (rw [cell_of_heap e2]; rfl)
  clear HBX HMA HKA HD hisM HO1 HG1 h1 g1
  go_upto_region 4 with fail
  refine wp_region_noPanic ?_
  refine wp_region_held_drew (S := (fun w' => w'.cell? ⟨W.heap.size, 0, none⟩ = some (.int .i64 rule) ∧ w'.cell? ⟨W.heap.size, 1, none⟩ = some (.int .i64 role) ∧ w'.cell? ⟨W.heap.size, 2, none⟩ = some (.int .i64 who) ∧ w'.cell? ⟨W.heap.size, 3, none⟩ = some (.int .i64 mid))) (by kernel_rfl) H1 (fun hHeld => ?_)
  refine wpAnyH_take_at (i := 0) (v := ?v0b) rfl (by kernel_rfl) (by kernel_rfl) (by kernel_rfl) (fun _ _ _ h => h) (Or.inl ⟨by rfl, ?y0b⟩) hHeld ?r0b
  case y0b => (intro w hSw; (try dsimp only at hSw); go_simp; first | done | with_reducible rfl)
  (try simp only [Act.put, List.setIfInBounds_toArray, List.set_cons_zero, List.set_cons_succ])
  refine wpAnyH_take_at (i := 1) (v := ?v1b) rfl (by kernel_rfl) (by kernel_rfl) (by kernel_rfl) (fun _ _ _ h => h) (Or.inl ⟨by rfl, ?y1b⟩) hHeld ?r1b
  case y1b => (intro w hSw; (try dsimp only at hSw); go_simp; first | done | with_reducible rfl)
  (try simp only [Act.put, List.setIfInBounds_toArray, List.set_cons_zero, List.set_cons_succ])
  refine wpAnyH_take_at (i := 2) (v := ?v2b) rfl (by kernel_rfl) (by kernel_rfl) (by kernel_rfl) (fun _ _ _ h => h) (Or.inl ⟨by rfl, ?y2b⟩) hHeld ?r2b
  case y2b => (intro w hSw; (try dsimp only at hSw); go_simp; first | done | with_reducible rfl)
  (try simp only [Act.put, List.setIfInBounds_toArray, List.set_cons_zero, List.set_cons_succ])
  refine wpAnyH_take_at (i := 3) (v := ?v3b) rfl (by kernel_rfl) (by kernel_rfl) (by kernel_rfl) (fun _ _ _ h => h) (Or.inl ⟨by rfl, ?y3b⟩) hHeld ?r3b
  case y3b => (intro w hSw; (try dsimp only at hSw); go_simp; first | done | with_reducible rfl)
  (try simp only [Act.put, List.setIfInBounds_toArray, List.set_cons_zero, List.set_cons_succ])
  refine wpAnyH_take_at (i := 5) (v := ?v5b) rfl (by kernel_rfl) (by kernel_rfl) (by kernel_rfl) (fun _ _ _ h => h) (Or.inl ⟨by rfl, ?y5b⟩) hHeld ?r5b
  case y5b => (intro w hSw; (try dsimp only at hSw); go_simp; first | done | with_reducible rfl)
  (try simp only [Act.put, List.setIfInBounds_toArray, List.set_cons_zero, List.set_cons_succ])
  refine wpAnyH_ready (rs := [4, 6]) (by kernel_rfl) (by simp) (AllReadyH.cons (get_at rfl) (fun K hK => ?_) (AllReadyH.cons (get_at rfl) (fun K hK => ?_) AllReadyH.nil))
  · go_simp
    refine hK.out _ _ ?s4X (fun hHeld => ?_)
    case s4X => exact hHeld
    clear hK K
    (try simp only [Act.put, List.setIfInBounds_toArray, List.set_cons_zero, List.set_cons_succ])
    refine wpAnyH_one (i := 6) (by kernel_rfl) rfl (fun K hK => ?_)
    go_simp
    have hA : (fun w' => w'.cell? ⟨W.heap.size, 0, none⟩ = some (.int .i64 rule) ∧ w'.cell? ⟨W.heap.size, 1, none⟩ = some (.int .i64 role) ∧ w'.cell? ⟨W.heap.size, 2, none⟩ = some (.int .i64 who) ∧ w'.cell? ⟨W.heap.size, 3, none⟩ = some (.int .i64 mid)) (w1.drew.alloc (.cells #[.int .i64 rule, .int .i64 role, .int .i64 who, .int .i64 mid] 30)) := by
      obtain ⟨z0, z1, z2, z3⟩ := hHeld
      have lz := lt_of_cell z0
      exact ⟨(World.cell?_alloc_past _ _ _ lz).trans z0, (World.cell?_alloc_past _ _ _ lz).trans z1, (World.cell?_alloc_past _ _ _ lz).trans z2, (World.cell?_alloc_past _ _ _ lz).trans z3⟩
    refine hK.out _ _ ?s6X (fun hHeld => ?_)
    case s6X => exact hA
    clear hK K
    (try simp only [Act.put, List.setIfInBounds_toArray, List.set_cons_zero, List.set_cons_succ])
    refine wpAnyH_one (i := 7) (by kernel_rfl) rfl (fun K hK => ?_)
    refine step_append_tail rfl (.tmp 27) (.tmp 29) 24 rfl 30 i0 _ 4 32 Try.underlying24 hi0 hz0 hz1' hz2 rfl (by decide) (.slice so l.length sc) l.length (spCells l) (by simp [Act.eval, Act.put]) HRW.out ⟨w1.heap.size, 0, none⟩ 1 1 [.int .i64 rule, .int .i64 role, .int .i64 who, .int .i64 mid] (by simp [Act.eval, Act.put]) rfl (cells_new _ _ _) (by intro u hu; simp only [List.mem_cons, List.not_mem_nil, or_false] at hu; rcases hu with rfl | rfl | rfl | rfl <;> rfl) (by omega) (by unfold maxLen; omega) (by omega) ?_
    intro ao2 cap2 w2 hown hgrow hfp
    obtain ⟨e1, e2, e3, e4, HP⟩ := HEND.out _ _ _ hown hgrow hfp
    clear hown hgrow hfp
    refine hK.out _ _ ?s7X (fun hHeld => ?_)
    case s7X => exact e1
    clear hK K
    (try simp only [Act.put, List.setIfInBounds_toArray, List.set_cons_zero, List.set_cons_succ])
    refine wpAnyH_take_at (i := 8) (v := ?v8X) rfl (by kernel_rfl) (by kernel_rfl) (by kernel_rfl) (fun _ _ _ h => h) (Or.inl ⟨by rfl, ?y8X⟩) hHeld ?r8X
    case y8X => (intro w hSw; (try dsimp only at hSw); go_simp; first | done | with_reducible rfl)
    (try simp only [Act.put, List.setIfInBounds_toArray, List.set_cons_zero, List.set_cons_succ])
    refine wpAnyH_take_at (i := 9) (v := ?v9X) rfl (by kernel_rfl) (by kernel_rfl) (by kernel_rfl) (fun _ _ _ h => h) (Or.inl ⟨by rfl, ?y9X⟩) hHeld ?r9X
    case y9X => (intro w hSw; (try dsimp only at hSw); go_simp; first | done | with_reducible rfl)
    (try simp only [Act.put, List.setIfInBounds_toArray, List.set_cons_zero, List.set_cons_succ])
    refine wpAnyH_one (i := 10) (by kernel_rfl) rfl (fun K hK => ?_)
    go_simp
    refine hK.out _ _ ?s10X (fun hHeld => ?_)
    case s10X => exact e2
    clear hK K
    (try simp only [Act.put, List.setIfInBounds_toArray, List.set_cons_zero, List.set_cons_succ])
    refine wpAnyH_done (by kernel_rfl) ?_ _
    refine NoPanic.normal ?_
    go_wp2_with fail
    go_ret
    exact HP.out
  · go_simp
    have hA : (fun w' => w'.cell? ⟨W.heap.size, 0, none⟩ = some (.int .i64 rule) ∧ w'.cell? ⟨W.heap.size, 1, none⟩ = some (.int .i64 role) ∧ w'.cell? ⟨W.heap.size, 2, none⟩ = some (.int .i64 who) ∧ w'.cell? ⟨W.heap.size, 3, none⟩ = some (.int .i64 mid)) (w1.drew.alloc (.cells #[.int .i64 rule, .int .i64 role, .int .i64 who, .int .i64 mid] 30)) := by
      obtain ⟨z0, z1, z2, z3⟩ := hHeld
      have lz := lt_of_cell z0
      exact ⟨(World.cell?_alloc_past _ _ _ lz).trans z0, (World.cell?_alloc_past _ _ _ lz).trans z1, (World.cell?_alloc_past _ _ _ lz).trans z2, (World.cell?_alloc_past _ _ _ lz).trans z3⟩
    refine hK.out _ _ ?s6Z (fun hHeld => ?_)
    case s6Z => exact hA
    clear hK K
    (try simp only [Act.put, List.setIfInBounds_toArray, List.set_cons_zero, List.set_cons_succ])
    refine wpAnyH_one (i := 4) (by kernel_rfl) rfl (fun K hK => ?_)
    go_simp
    refine hK.out _ _ ?s4Z (fun hHeld => ?_)
    case s4Z => exact hHeld
    clear hK K
    (try simp only [Act.put, List.setIfInBounds_toArray, List.set_cons_zero, List.set_cons_succ])
    refine wpAnyH_one (i := 7) (by kernel_rfl) rfl (fun K hK => ?_)
    refine step_append_tail rfl (.tmp 27) (.tmp 29) 24 rfl 30 i0 _ 4 32 Try.underlying24 hi0 hz0 hz1' hz2 rfl (by decide) (.slice so l.length sc) l.length (spCells l) (by simp [Act.eval, Act.put]) HRW.out ⟨w1.heap.size, 0, none⟩ 1 1 [.int .i64 rule, .int .i64 role, .int .i64 who, .int .i64 mid] (by simp [Act.eval, Act.put]) rfl (cells_new _ _ _) (by intro u hu; simp only [List.mem_cons, List.not_mem_nil, or_false] at hu; rcases hu with rfl | rfl | rfl | rfl <;> rfl) (by omega) (by unfold maxLen; omega) (by omega) ?_
    intro ao2 cap2 w2 hown hgrow hfp
    obtain ⟨e1, e2, e3, e4, HP⟩ := HEND.out _ _ _ hown hgrow hfp
    clear hown hgrow hfp
    refine hK.out _ _ ?s7Z (fun hHeld => ?_)
    case s7Z => exact e1
    clear hK K
    (try simp only [Act.put, List.setIfInBounds_toArray, List.set_cons_zero, List.set_cons_succ])
    refine wpAnyH_take_at (i := 8) (v := ?v8Z) rfl (by kernel_rfl) (by kernel_rfl) (by kernel_rfl) (fun _ _ _ h => h) (Or.inl ⟨by rfl, ?y8Z⟩) hHeld ?r8Z
    case y8Z => (intro w hSw; (try dsimp only at hSw); go_simp; first | done | with_reducible rfl)
    (try simp only [Act.put, List.setIfInBounds_toArray, List.set_cons_zero, List.set_cons_succ])
    refine wpAnyH_take_at (i := 9) (v := ?v9Z) rfl (by kernel_rfl) (by kernel_rfl) (by kernel_rfl) (fun _ _ _ h => h) (Or.inl ⟨by rfl, ?y9Z⟩) hHeld ?r9Z
    case y9Z => (intro w hSw; (try dsimp only at hSw); go_simp; first | done | with_reducible rfl)
    (try simp only [Act.put, List.setIfInBounds_toArray, List.set_cons_zero, List.set_cons_succ])
    refine wpAnyH_one (i := 10) (by kernel_rfl) rfl (fun K hK => ?_)
    go_simp
    refine hK.out _ _ ?s10Z (fun hHeld => ?_)
    case s10Z => exact e2
    clear hK K
    (try simp only [Act.put, List.setIfInBounds_toArray, List.set_cons_zero, List.set_cons_succ])
    refine wpAnyH_done (by kernel_rfl) ?_ _
    refine NoPanic.normal ?_
    go_wp2_with fail
    go_ret
    exact HP.out
end Go.Proofs.Ytahnedkdodjomaa
