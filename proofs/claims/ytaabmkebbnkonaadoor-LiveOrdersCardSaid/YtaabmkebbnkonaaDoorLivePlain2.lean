/-
  The law's own row of rules beside what is there; what a call answers; the sum.
-/
import Derived.Test.YtaabmkebbnkonaaDoorLiveOps
import Derived.Test.YtaabmkebbnkonaaDoorLivePairs
set_option linter.unusedVariables false
set_option linter.unusedSimpArgs false
set_option linter.unnecessarySimpa false
namespace Go.Proofs.YtaabmkebbnkonaaDoor
open Go.ChangeShapes Go.WideShapes Go.ChangeAt Go.RowKit Go.Deep SetPlain
/-- A block of a kind that the live model has. -/
def LiveKind (t : Nat) : Prop := t ≠ 42 ∧ t ≠ 67 ∧ t ≠ 4 ∧ t ≠ 31 ∧ t ≠ 22 ∧ t ≠ 3
theorem LvIs.kind {z : Nat} {W : World} {lb P K : Nat} {rs : List Rl} {Fp : Nat → Prop} (h : LvIs z W lb P K rs Fp) {k : Nat} (hk : Fp k) : ∃ cur t, W.heap[k]? = some (.cells cur t (0, 0)) ∧ LiveKind t := by
  obtain ⟨fb, bw, rb, v, In, tot, h1, _, _, h4⟩ := h
  rcases (h4 k).1 hk with rfl | (rfl | rfl | ⟨i, hi, rfl⟩) | hv
  · have := h1.obj
    unfold lvObj at this
    exact ⟨_, _, this, by unfold LiveKind; decide⟩
  · have := h1.fam.obj
    unfold famObj at this
    exact ⟨_, _, this, by unfold LiveKind; decide⟩
  · obtain ⟨F, h5, _⟩ := h1.fam.rows
    exact ⟨_, _, h5, by unfold LiveKind; decide⟩
  · obtain ⟨cur, h5, _⟩ := h1.fam.row i hi
    exact ⟨_, _, h5, by unfold LiveKind; decide⟩
  · obtain ⟨cur, hc⟩ := TailRow.lt h1.row k hv
    exact ⟨cur, _, hc, by unfold LiveKind; decide⟩
theorem not_kind {W : World} {Fp : Nat → Prop} (hk : ∀ k, Fp k → ∃ cur t, W.heap[k]? = some (.cells cur t (0, 0)) ∧ LiveKind t) {k t : Nat} {cur : Array Value} (hc : W.heap[k]? = some (.cells cur t (0, 0))) (ht : ¬ LiveKind t) : ¬ Fp k := fun hf => by
  obtain ⟨c2, t2, h2, h3⟩ := hk k hf
  rw [h2] at hc
  simp only [Option.some.injEq, Obj.cells.injEq] at hc
  obtain ⟨_, rfl, _⟩ := hc
  exact ht h3
theorem RefM.apart {W W' : World} {b : Nat} {ao : Option Addr} {cap : Nat} {rb : Rows} {P K N : Nat} {In : Nat → Nat → Bool} {Fp : Nat → Prop} (h : RefM W b ao cap rb P K N In) (hw : Keeps Fp W W') (hk : ∀ k, Fp k → ∃ cur t, W.heap[k]? = some (.cells cur t (0, 0)) ∧ LiveKind t) : RefM W' b ao cap rb P K N In := by
  have n1 : ¬ LiveKind 42 := by unfold LiveKind; decide
  have n2 : ¬ LiveKind 67 := by unfold LiveKind; decide
  have n3 : ¬ LiveKind 4 := by unfold LiveKind; decide
  refine ⟨(hw.block _ (lt_of_heap h.obj) (not_kind hk h.obj n1)).trans h.obj, fun h0 => ?_, fun i hi => ?_, h.inj, h.le, h.max⟩
  · obtain ⟨g, k, cur, e, hg, hc⟩ := h.ptr h0
    exact ⟨g, k, cur, e, (hw.block _ (lt_of_heap hg) (not_kind hk hg n2)).trans hg, hc⟩
  · obtain ⟨cur, hg, hc⟩ := h.row i hi
    exact ⟨cur, (hw.block _ (lt_of_heap hg) (not_kind hk hg n3)).trans hg, hc⟩
/-- Where a law stands that has its own row of rules. -/
structure PlS (W0 W : World) (lb P K : Nat) (rs : List Rl) (Fp : Nat → Prop) (rv : Value) (qs : List Rl) : Prop where
  st : LvS W0 W lb P K rs Fp
  row : TailRow W 29 6 rv qs.length (rlCells qs)
  no : ∀ k, rv.ownBlock = some k → ¬ Fp k
section
variable {W0 W W' : World} {lb P K : Nat} {rs rs' qs qs' : List Rl} {Fp Fp' : Nat → Prop} {rv rv' : Value}
theorem PlS.quiet (h : PlS W0 W lb P K rs Fp rv qs) (hk : Keeps (fun _ => False) W W') : PlS W0 W' lb P K rs Fp rv qs := ⟨h.st.quiet hk, TailRow.keeps h.row hk (fun _ _ x => x), h.no⟩
theorem PlS.moved (h : PlS W0 W lb P K rs Fp rv qs) (hl : LvS W0 W' lb P K rs' Fp') (hm : MvF W W' Fp Fp') : PlS W0 W' lb P K rs' Fp' rv qs :=
  ⟨hl, TailRow.keeps h.row hm.keeps h.no, fun k e hf => by
    rcases hm.fp k hf with h1 | h1
    · exact h.no k e h1
    · obtain ⟨_, hc⟩ := TailRow.lt h.row k e
      have := lt_of_heap hc
      omega⟩
theorem PlS.newRow (h : PlS W0 W lb P K rs Fp rv qs) (hk : Keeps (fun _ => False) W W') (hown : TailRow W' 29 6 rv' qs'.length (rlCells qs')) (hn : ∀ k, rv'.ownBlock = some k → W.heap.size ≤ k) : PlS W0 W' lb P K rs Fp rv' qs' :=
  ⟨h.st.quiet hk, hown, fun k e hf => by have := hn k e; have := h.st.is.lt k hf; omega⟩
end
theorem PlS.eval {W0 W : World} {lb P K n N : Nat} {rs qs : List Rl} {Fp : Nat → Prop} {rv : Value} (h : PlS W0 W lb P K rs Fp rv qs) (hq : ∀ r ∈ qs, rightB P K r = true) (hl : qs.length = n) (hn : n ≤ 1000) (hP : P ≤ 64) (hK : K ≤ 64) (hN : P * K = N) :
    ∃ ar cr, rv = .slice ar n cr ∧ n ≤ cr ∧ RuleRow W ar qs ∧ Calls Tryd.prog 10 #[.int .i64 P, .int .i64 K, .slice ar n cr] W fun e W' => ∃ b, e = .returned (.pointer (some ⟨b, 0, none⟩)) ∧ Hid (Keeps (fun _ => False) W W' ∧ ∃ ao1 cap1 rb F, RefM W' b ao1 cap1 rb P K N F ∧ ∀ i c, F i c = true ↔ i < N ∧ c < P ∧ Der K qs i c) := by
  obtain ⟨ar, cr, hv, hle, _, hrow⟩ := TailRow.rules h.row
  subst hN
  rw [hl] at hv hle
  exact ⟨ar, cr, hv, hle, hrow, reval_live (by unfold Within; omega) (by unfold Within; omega) (by omega) (by omega) hl hn hle hrow hq⟩
/-- A row of rules that is being made anew. -/
structure Ap (W0 W : World) (v : Value) (L : List Rl) : Prop where
  row : TailRow W 29 6 v L.length (rlCells L)
  own : ∀ k, v.ownBlock = some k → W0.heap.size ≤ k
  kp : Keeps (fun _ => False) W0 W
theorem Ap.start {W0 W : World} (hk : Keeps (fun _ => False) W0 W) : Ap W0 (W.alloc (.cells #[] 29)) (.slice (some ⟨W.heap.size, 0, none⟩) 0 0) [] :=
  ⟨TailRow.of_own (empty_own W), fun k e => by simp only [Value.ownBlock, Option.some.injEq] at e; have := hk.size; omega, hk.alloc _⟩
theorem Ap.quiet {W0 W W' : World} {v : Value} {L : List Rl} (h : Ap W0 W v L) (hk : Keeps (fun _ => False) W W') : Ap W0 W' v L := ⟨TailRow.keeps h.row hk (fun _ _ x => x), h.own, h.kp.trans hk⟩
theorem Ap.grow {W0 W W' : World} {v v' : Value} {L M : List Rl} (h : Ap W0 W v L) (hown : TailRow W' 29 6 v' M.length (rlCells M)) (hg : W.grownBy W' v.ownBlock) (ho : ∀ j, v'.ownBlock = some j → v.ownBlock = some j ∨ W.heap.size ≤ j) : Ap W0 W' v' M :=
  ⟨hown, fun k e => by
    rcases ho k e with h1 | h1
    · exact h.own k h1
    · exact Nat.le_trans h.kp.size h1, h.kp.trans_new (keeps_grown hg) (fun q hq e => by have := h.own q e; omega)⟩
theorem Ap.lt {W0 W : World} {v : Value} {L : List Rl} (h : Ap W0 W v L) {k : Nat} (e : v.ownBlock = some k) : k < W.heap.size := by
  obtain ⟨_, hx⟩ := TailRow.lt h.row k e
  exact lt_of_heap hx
theorem one_row {W : World} {b : Nat} {r : Rl} (h : W.heap[b]? = some (.cells #[.int .i64 r.kind, .int .i64 r.head, .int .i64 r.who, .int .i64 r.a, .int .i64 r.b, .int .i64 r.via] 29 (0, 0))) : RuleRow W (some ⟨b, 0, none⟩) [r] := fun _ => by
  refine ⟨b, 0, rfl, lt_of_heap h, fun i x hx => ?_⟩
  cases i with
  | zero =>
    simp only [List.getElem?_cons_zero, Option.some.injEq] at hx
    subst hx
    refine ⟨?_, ?_, ?_, ?_, ?_, ?_⟩ <;> (rw [cell_of_heap h]; rfl)
  | succ i => cases hx
theorem RuleRow.take {w : World} {ao : Option Addr} {rs : List Rl} (h : RuleRow w ao rs) (n : Nat) : RuleRow w ao (rs.take n) := fun h0 => by
  obtain ⟨g, o, rfl, hg, hc⟩ := h (by rw [List.length_take] at h0; omega)
  refine ⟨g, o, rfl, hg, fun i r hr => hc i r ?_⟩
  rw [List.getElem?_take] at hr
  split at hr
  · exact hr
  · cases hr
theorem RuleRow.drop {w : World} {ao : Option Addr} {rs : List Rl} (h : RuleRow w ao rs) {c : Nat} (hc : rs.length ≤ c) (m : Nat) : RuleRow w (if c = m then ao else Option.map (fun x => x.add (m * 6)) ao) (rs.drop m) := fun h0 => by
  rw [List.length_drop] at h0
  obtain ⟨g, o, rfl, hg, hx⟩ := h (by omega)
  rw [if_neg (by omega)]
  refine ⟨g, o + m * 6, by rw [Option.map_some, add_plain], hg, fun i r hr => ?_⟩
  rw [List.getElem?_drop] at hr
  obtain ⟨c0, c1, c2, c3, c4, c5⟩ := hx (m + i) r hr
  have e : o + m * 6 + i * 6 = o + (m + i) * 6 := by omega
  rw [e]
  exact ⟨c0, c1, c2, c3, c4, c5⟩
theorem wpAnyH_two {P : Program} {md : Region.Mode} {ops : Array Oper} {Q : Exit → Act → World → Prop} {S : World → Prop} {i j : Nat} {o o2 : Oper} {rest rest2 : List Oper} {fuel : Nat} {listed : Array Bool} {a : Act} {w : World} (hr : Region.ready md ops listed = [i, j]) (hi : ops.toList.drop i = o :: rest) (hj : ops.toList.drop j = o2 :: rest2)
    (h : ∀ K' : Act → World → Prop, Shut (∀ a w, S w → (S w → wpAnyH P md ops Q S fuel (listed.setIfInBounds i true) a w) → K' a w) → if Region.wanted o (yielded ops a.tmps) = true then Oper.wp P o a w K' Q else K' (a.put o.dst undef) w)
    (h2 : ∀ K' : Act → World → Prop, Shut (∀ a w, S w → (S w → wpAnyH P md ops Q S fuel (listed.setIfInBounds j true) a w) → K' a w) → if Region.wanted o2 (yielded ops a.tmps) = true then Oper.wp P o2 a w K' Q else K' (a.put o2.dst undef) w) :
    wpAnyH P md ops Q S (fuel + 1) listed a w :=
  wpAnyH_ready hr (by simp) (AllReadyH.cons (get_at hi) h (AllReadyH.cons (get_at hj) h2 AllReadyH.nil))
/-- Where a rule stands among the first so many. -/
def AtI (rs : List Rl) (r : Rl) (q : Nat) (x : Int) : Prop := (x = -1 ∧ r ∉ rs.take q) ∨ ∃ a : Nat, a < q ∧ x = a ∧ rs[a]? = some r
theorem AtI.start (rs : List Rl) (r : Rl) : AtI rs r 0 (-1) := .inl ⟨rfl, by simp⟩
theorem AtI.hit {rs : List Rl} {r : Rl} {q : Nat} (h : rs[q]? = some r) : AtI rs r (q + 1) q := .inr ⟨q, Nat.lt_succ_self _, rfl, h⟩
theorem AtI.miss {rs : List Rl} {r y : Rl} {q : Nat} {x : Int} (h : AtI rs r q x) (hy : rs[q]? = some y) (hne : ¬ y = r) : AtI rs r (q + 1) x := by
  rcases h with ⟨h1, h2⟩ | ⟨a, h1, h2, h3⟩
  · refine .inl ⟨h1, fun hm => ?_⟩
    rw [List.take_add_one, hy] at hm
    rcases List.mem_append.1 hm with h | h
    · exact h2 h
    · simp only [Option.toList_some, List.mem_singleton] at h
      exact hne h.symm
  · exact .inr ⟨a, by omega, h2, h3⟩
theorem AtI.done {rs : List Rl} {r : Rl} {x : Int} (h : AtI rs r rs.length x) : (x = -1 ∧ r ∉ rs) ∨ ∃ a : Nat, a < rs.length ∧ x = a ∧ rs[a]? = some r := by
  rcases h with ⟨h1, h2⟩ | h
  · rw [List.take_length] at h2; exact .inl ⟨h1, h2⟩
  · exact .inr h
theorem nodup_at {rs : List Rl} (h : rs.Nodup) {i j : Nat} {r : Rl} (hi : rs[i]? = some r) (hj : rs[j]? = some r) : i = j := by
  have li : i < rs.length := by
    rcases Nat.lt_or_ge i rs.length with h | h
    · exact h
    · rw [List.getElem?_eq_none h] at hi; cases hi
  have lj : j < rs.length := by
    rcases Nat.lt_or_ge j rs.length with h | h
    · exact h
    · rw [List.getElem?_eq_none h] at hj; cases hj
  rw [List.getElem?_eq_getElem li] at hi
  rw [List.getElem?_eq_getElem lj] at hj
  have e : rs[i] = rs[j] := (Option.some.inj hi).trans (Option.some.inj hj).symm
  have hp := List.pairwise_iff_getElem.1 h
  rcases Nat.lt_trichotomy i j with h1 | h1 | h1
  · exact absurd e (hp i j li lj h1)
  · exact h1
  · exact absurd e.symm (hp j i lj li h1)
theorem AddR.bad {P K : Nat} {rs rs' : List Rl} {r : Rl} {ans : List (Nat × Nat)} {code : Int} (h : AddR P K rs r rs' ans code) (hr : rightB P K r = false) : rs' = rs ∧ ans = [] ∧ code = 6 := by
  rcases h with ⟨_, h⟩ | ⟨h, _⟩ | ⟨h, _⟩
  · exact h
  · rw [hr] at h; cases h
  · rw [hr] at h; cases h
theorem AddR.old {P K : Nat} {rs rs' : List Rl} {r : Rl} {ans : List (Nat × Nat)} {code : Int} (h : AddR P K rs r rs' ans code) (hr : rightB P K r = true) (hm : r ∈ rs) : rs' = rs ∧ ans = [] ∧ code = 5 := by
  rcases h with ⟨h, _⟩ | ⟨_, _, h⟩ | ⟨_, h, _⟩
  · rw [hr] at h; cases h
  · exact h
  · exact absurd hm h
theorem AddR.new {P K : Nat} {rs rs' : List Rl} {r : Rl} {ans : List (Nat × Nat)} {code : Int} (h : AddR P K rs r rs' ans code) (hr : rightB P K r = true) (hm : r ∉ rs) : rs' = rs ++ [r] ∧ Diff P K rs (rs ++ [r]) ans ∧ code = 0 := by
  rcases h with ⟨h, _⟩ | ⟨_, h, _⟩ | ⟨_, _, h⟩
  · rw [hr] at h; cases h
  · exact absurd h hm
  · exact h
theorem DropR.none {P K : Nat} {rs rs' : List Rl} {r : Rl} {ans : List (Nat × Nat)} {code : Int} (h : DropR P K rs r rs' ans code) (hm : r ∉ rs) : rs' = rs ∧ ans = [] ∧ code = 7 := by
  rcases h with ⟨_, h⟩ | ⟨i, h, _⟩
  · exact h
  · exact absurd (List.mem_of_getElem? h) hm
theorem DropR.at {P K : Nat} {rs rs' : List Rl} {r : Rl} {ans : List (Nat × Nat)} {code : Int} {a : Nat} (h : DropR P K rs r rs' ans code) (hn : rs.Nodup) (ha : rs[a]? = some r) : rs' = rs.take a ++ rs.drop (a + 1) ∧ Diff P K rs' rs ans ∧ code = 0 := by
  rcases h with ⟨h, _⟩ | ⟨i, hi, h1, h2, h3⟩
  · exact absurd (List.mem_of_getElem? ha) h
  · obtain rfl := nodup_at hn hi ha
    exact ⟨by rw [h1, List.eraseIdx_eq_take_drop_succ], h2, h3⟩
/-- What the law wants of an answer is what is told. -/
theorem want_add {P K N : Nat} (hN : P * K = N) {rs rs' : List Rl} {ans : List (Nat × Nat)} {F F2 : Nat → Nat → Bool} (h : Diff P K rs rs' ans) (hF : ∀ i c, F i c = true ↔ i < N ∧ c < P ∧ Der K rs i c) (hF2 : ∀ i c, F2 i c = true ↔ i < N ∧ c < P ∧ Der K rs' i c) : ans = diffTo F2 F P N := by
  subst hN
  exact h.eq (diff_drop hF2 hF)
theorem members_plain {P N : Nat} {Q : Nat → Nat → Prop} {F : Nat → Nat → Bool} (hf : ∀ i c, F i c = true ↔ i < N ∧ c < P ∧ Q i c) {i : Int} {l : List Nat} (hl : l.Pairwise (· < ·)) (hm : ∀ c, c ∈ l ↔ 0 ≤ i ∧ i.toNat < N ∧ c < P ∧ Q i.toNat c) : l = listTo (rowP N F i) P :=
  order_eq (R := (· < ·)) (fun a => Nat.lt_irrefl a) (fun a b h => by omega) _ _ hl (listTo_rises _ _) (fun c => by
    rw [hm, listTo_iff]
    unfold rowP
    by_cases hi : 0 ≤ i ∧ i < ((N : Nat) : Int)
    · rw [if_pos hi, hf]
      constructor
      · rintro ⟨_, h1, h2, h3⟩; exact ⟨h2, h1, h2, h3⟩
      · rintro ⟨h1, h2, _, h3⟩; exact ⟨hi.1, h2, h1, h3⟩
    · rw [if_neg hi]
      constructor
      · rintro ⟨h1, h2, _⟩; exact absurd ⟨h1, by omega⟩ hi
      · rintro ⟨_, h⟩; cases h)
/-- How many are in, of the roles below one. -/
def sumQ (F : Nat → Nat → Bool) (P N q : Nat) : Nat := sumTo (fun a => cnt (F a) P) (min (q - 1) N)
theorem rows_none (P : Nat) : (listTo (fun _ => false) P).length = 0 := by rw [listTo_len, cnt_no]
theorem sumQ_next (F : Nat → Nat → Bool) (P N q : Nat) : sumQ F P N (q + 1) = sumQ F P N q + (listTo (rowP N F ((q : Int) - 1)) P).length := by
  unfold sumQ
  by_cases h0 : 1 ≤ q ∧ q ≤ N
  · have e : rowP N F ((q : Int) - 1) = F (q - 1) := by
      unfold rowP
      rw [if_pos (by omega), show ((q : Int) - 1).toNat = q - 1 by omega]
    rw [e, listTo_len, show min (q + 1 - 1) N = (q - 1) + 1 by omega, show min (q - 1) N = q - 1 by omega]
    rfl
  · have e : rowP N F ((q : Int) - 1) = fun _ => false := by
      unfold rowP
      rw [if_neg (by omega)]
    rw [e, rows_none, show min (q + 1 - 1) N = min (q - 1) N by omega]
    rfl
theorem sumQ_le (F : Nat → Nat → Bool) (P N q : Nat) : sumQ F P N q ≤ N * P := by
  unfold sumQ
  have h : ∀ m, sumTo (fun a => cnt (F a) P) m ≤ m * P := by
    intro m
    induction m with
    | zero => exact Nat.zero_le _
    | succ m ih =>
      have e := cnt_le (F m) P
      show sumTo (fun a => cnt (F a) P) m + cnt (F m) P ≤ _
      rw [Nat.succ_mul]
      omega
  exact Nat.le_trans (h _) (Nat.mul_le_mul (by omega) (Nat.le_refl _))
end Go.Proofs.YtaabmkebbnkonaaDoor
