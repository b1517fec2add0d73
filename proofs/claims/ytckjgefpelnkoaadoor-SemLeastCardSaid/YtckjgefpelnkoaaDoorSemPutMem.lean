/-
  A rule more in a row of a maker's: what memory is like behind the append and the store.
-/
import Derived.Test.YtckjgefpelnkoaaDoorSemLook
set_option linter.unusedVariables false
set_option linter.unusedSimpArgs false
set_option linter.unnecessarySimpa false
namespace Go.Proofs.YtckjgefpelnkoaaDoor
open Go.ChangeShapes Go.WideShapes Go.ChangeAt Go.RowKit Go.Deep SetPlain
theorem rlInfo : (Tryd.prog.info? 25).map (fun i => (i.zero, i.size, i.bytes)) = some (some (.agg #[.int .i64 0, .int .i64 0, .int .i64 0, .int .i64 0, .int .i64 0, .int .i64 0]), 6, 48) := by kernel_rfl
/-- A maker on its way with a rule's box beside it. -/
structure PutAt (W0 : World) (M : Mk) (vr0 vr : Nat → Value) (L : Nat → List Rl) (vq0 : Value) (x : Nat) (r : Rl) (s : St) (vq : Value) (W : World) : Prop where
  at_ : SemAt W M vr L s vq
  step : SemStep M vr0 vr vq0 vq W0 W
  rule : RlAt W x r
  nx : ¬ semFp M vr vq x
def setV (vr : Nat → Value) (g : Nat) (v : Value) : Nat → Value := fun i => if i = g then v else vr i
def addL (L : Nat → List Rl) (g : Nat) (r : Rl) : Nat → List Rl := fun i => if i = g then L i ++ [r] else L i
def rowPlace (M : Mk) (g : Nat) (p : Addr) : Prop := (g < M.N ∧ p = ⟨M.bb, g, none⟩) ∨ (M.N ≤ g ∧ p = ⟨M.vb, g - M.N, none⟩)
/-- What the regions read behind an append. -/
structure PutS (M : Mk) (vr : Nat → Value) (x : Nat) (r : Rl) (W : World) : Prop where
  by_ : W.cell? ⟨M.mb, 1, none⟩ = some (.slice (some ⟨M.bb, 0, none⟩) M.N M.N)
  via_ : W.cell? ⟨M.mb, 2, none⟩ = some (.slice (some ⟨M.vb, 0, none⟩) M.K M.K)
  rule : RlAt W x r
  bc : ∀ i, i < M.N → W.cell? ⟨M.bb, i, none⟩ = some (vr i)
  vc : ∀ i, i < M.K → W.cell? ⟨M.vb, i, none⟩ = some (vr (M.N + i))
  bf : ∀ i, W.frozen? ⟨M.bb, i, none⟩ = false
  vf : ∀ i, W.frozen? ⟨M.vb, i, none⟩ = false
section
variable {W0 W W1 W2 : World} {M : Mk} {vr0 vr : Nat → Value} {L : Nat → List Rl} {s : St} {vq0 vq : Value} {x : Nat} {r : Rl} {g : Nat} {v : Value}
theorem SemMem.growRow {In : Nat → Nat → Bool} {tot steps : Nat} {q : List (Nat × Nat)} (h : SemMem W M vr L In tot steps vq q) (hg : g < M.N + M.K)
    (ho : TailRow W2 25 6 v ((L g).length + 1) (rlCells (L g) ++ r.cells)) (hk : Keeps (fun k => (vr g).ownBlock = some k) W W2)
    (hfp : ∀ k, v.ownBlock = some k → (vr g).ownBlock = some k ∨ W.heap.size ≤ k) {p : Addr} (hp : rowPlace M g p) :
    SemMem (W2.setCell p v) M (setV vr g v) (addL L g r) In tot steps vq q ∧ SemStep M vr (setV vr g v) vq vq W (W2.setCell p v) := by
  have hown : ∀ (k : Nat) (c : Array Value) (t : TypeId) (f : Nat × Nat), W.heap[k]? = some (.cells c t f) → t ≠ 25 → W2.heap[k]? = some (.cells c t f) := fun k c t f hc ht => (hk.block k (lt_of_heap hc) ((h.rows g hg).type hc ht)).trans hc
  have hb2 := hown _ _ _ _ h.byo (by decide)
  have hv2 := hown _ _ _ _ h.vio (by decide)
  have hpb : p.block = M.bb ∨ p.block = M.vb := hp.imp (fun x => by rw [x.2]) (fun x => by rw [x.2])
  have hty : ∃ c, W2.heap[p.block]? = some (.cells c 23 (0, 0)) := by
    rcases hpb with e | e <;> rw [e]
    · exact ⟨_, hb2⟩
    · exact ⟨_, hv2⟩
  obtain ⟨cp, hcp⟩ := hty
  have h2 : Keeps (fun k => k = p.block) W2 (W2.setCell p v) := Keeps.setCell (S := fun k => k = p.block) (Keeps.refl _ W2) (p := p) (fun _ => rfl) v
  have hoth : ∀ (k : Nat) (c : Array Value) (t : TypeId) (f : Nat × Nat), W2.heap[k]? = some (.cells c t f) → t ≠ 23 → (W2.setCell p v).heap[k]? = some (.cells c t f) := fun k c t f hc ht => (h2.block k (lt_of_heap hc) (ne_of_type hc hcp ht)).trans hc
  have hb : ∀ (k : Nat) (c : Array Value) (t : TypeId) (f : Nat × Nat), W.heap[k]? = some (.cells c t f) → t ≠ 25 → t ≠ 23 → (W2.setCell p v).heap[k]? = some (.cells c t f) := fun k c t f hc ht ht2 => hoth _ _ _ _ (hown _ _ _ _ hc ht) ht2
  have hm := h.mko
  have hmo := h.moo
  unfold mkObj at hm
  unfold moObj at hmo
  have hf := h.fam
  have hlt : ∀ i, i < M.N + M.K → ∀ k, (vr i).ownBlock = some k → k < W.heap.size := fun i hi k hk => by obtain ⟨c, hc⟩ := (h.rows i hi).lt k hk; exact lt_of_heap hc
  refine ⟨⟨hb _ _ _ _ hm (by decide) (by decide), hb _ _ _ _ hmo (by decide) (by decide),
    ⟨hb _ _ _ _ hf.obj (by decide) (by decide), hb _ _ _ _ hf.rows (by decide) (by decide), fun i hi => hb _ _ _ _ (hf.row i hi) (by decide) (by decide), hf.inj, hf.out, hf.hR, hf.hC⟩,
    ?_, ?_, fun i hi => ?_, fun i j hi hj k hik hjk => ?_, ?_, h.hP, h.hK, h.bv⟩, ⟨?_, fun k hk => ?_⟩⟩
  · rcases hp with ⟨hgn, rfl⟩ | ⟨hgn, rfl⟩
    · rw [heap_set hb2, fnRow_set _ _ _ _ hgn]; rfl
    · rw [h2.block _ (lt_of_heap hb2) h.bv, hb2]
      congr 2
      exact fnRow_congr fun j hj => by unfold setV; rw [if_neg (by omega)]
  · rcases hp with ⟨hgn, rfl⟩ | ⟨hgn, rfl⟩
    · rw [h2.block _ (lt_of_heap hv2) (fun e => h.bv e.symm), hv2]
      congr 2
      exact fnRow_congr fun j hj => by unfold setV; rw [if_neg (by omega)]
    · rw [heap_set hv2, fnRow_set _ _ _ _ (by omega)]
      congr 2
      refine fnRow_congr fun j hj => ?_
      unfold setV
      by_cases e : j = g - M.N
      · rw [if_pos e, if_pos (by omega)]
      · rw [if_neg e, if_neg (by omega)]
  · by_cases e : i = g
    · subst e
      have e1 : setV vr i v i = v := if_pos rfl
      have e2 : addL L i r i = L i ++ [r] := if_pos rfl
      rw [e1, e2, rlCells_append, List.length_append]
      have : rlCells [r] = r.cells := by simp [rlCells]
      rw [this]
      refine ho.keeps h2 (fun k x e3 => ?_)
      subst e3
      exact ho.type hcp (by decide) x
    · have e1 : setV vr g v i = vr i := if_neg e
      have e2 : addL L g r i = L i := if_neg e
      rw [e1, e2]
      refine ((h.rows i hi).keeps hk (fun k x y => e (h.inj i g hi hg k x y))).keeps h2 (fun k x e3 => ?_)
      subst e3
      exact ((h.rows i hi).keeps hk (fun k x y => e (h.inj i g hi hg k x y))).type hcp (by decide) x
  · unfold setV at hik hjk
    by_cases ei : i = g
    · rw [if_pos ei] at hik
      by_cases ej : j = g
      · omega
      · rw [if_neg ej] at hjk
        rcases hfp k hik with y | y
        · have := h.inj g j hg hj k y hjk; omega
        · have := hlt j hj k hjk; omega
    · rw [if_neg ei] at hik
      by_cases ej : j = g
      · rw [if_pos ej] at hjk
        rcases hfp k hjk with y | y
        · have := h.inj i g hi hg k hik y; omega
        · have := hlt i hi k hik; omega
      · rw [if_neg ej] at hjk
        exact h.inj i j hi hj k hik hjk
  · have hq := h.que
    refine (hq.keeps hk (fun k x y => ?_)).keeps h2 (fun k x e3 => ?_)
    · obtain ⟨c, hc⟩ := hq.lt k x
      exact (h.rows g hg).type hc (by decide) y
    · subst e3
      refine (hq.keeps hk (fun k x y => ?_)).type hcp (by decide) x
      obtain ⟨c, hc⟩ := hq.lt k x
      exact (h.rows g hg).type hc (by decide) y
  · refine Keeps.setCell (hk.mono (fun k _ x => .inr (.inr (.inr (.inr (.inr (.inl ⟨g, hg, x⟩))))))) (fun _ => ?_) v
    rcases hpb with e | e <;> rw [e]
    · exact .inr (.inr (.inr (.inl rfl)))
    · exact .inr (.inr (.inr (.inr (.inl rfl))))
  · rcases hk with x | x | x | x | x | ⟨i, hi, x⟩ | x
    · exact .inl (.inl x)
    · exact .inl (.inr (.inl x))
    · exact .inl (.inr (.inr (.inl x)))
    · exact .inl (.inr (.inr (.inr (.inl x))))
    · exact .inl (.inr (.inr (.inr (.inr (.inl x)))))
    · unfold setV at x
      by_cases e : i = g
      · rw [if_pos e] at x
        exact (hfp k x).imp (fun y => .inr (.inr (.inr (.inr (.inr (.inl ⟨g, hg, y⟩)))))) id
      · rw [if_neg e] at x
        exact .inl (.inr (.inr (.inr (.inr (.inr (.inl ⟨i, hi, x⟩))))))
    · exact .inl (.inr (.inr (.inr (.inr (.inr (.inr x))))))
theorem PutAt.move {vr' : Nat → Value} {L' : Nat → List Rl} {s' : St} {vq' : Value} {W' : World} (h : PutAt W0 M vr0 vr L vq0 x r s vq W) (ha : SemAt W' M vr' L' s' vq') (hs : SemStep M vr vr' vq vq' W W') : PutAt W0 M vr0 vr' L' vq0 x r s' vq' W' := by
  obtain ⟨r0, r1, r2, r3, r4, r5⟩ := h.rule
  obtain ⟨h1, h2, h3⟩ := hs.foreign h.nx (lt_of_cell r0)
  have hc : ∀ i, W'.cell? ⟨x, i, none⟩ = W.cell? ⟨x, i, none⟩ := fun i => World.cell?_of_block h1
  exact ⟨ha, h.step.trans hs, ⟨(hc 0).trans r0, (hc 1).trans r1, (hc 2).trans r2, (hc 3).trans r3, (hc 4).trans r4, (hc 5).trans r5⟩, h2⟩
theorem PutAt.tick (h : PutAt W0 M vr0 vr L vq0 x r s vq W) : PutAt W0 M vr0 vr L vq0 x r s.tick vq (W.setCell ⟨M.mo, 3, none⟩ (.int .i64 (s.steps + 1 : Nat))) := h.move h.at_.tick.1 h.at_.tick.2
theorem PutAt.quiet {W' : World} (h : PutAt W0 M vr0 vr L vq0 x r s vq W) (hk : Keeps (fun _ => False) W W') : PutAt W0 M vr0 vr L vq0 x r s vq W' := h.move (h.at_.keeps hk) (SemStep.quiet hk)
theorem PutAt.box (h : SemAt W M vr L s vq) (r : Rl) : PutAt W M vr vr L vq W.heap.size r s vq (W.alloc (ruleObj r)) := by
  have hk : Keeps (fun _ => False) W (W.alloc (ruleObj r)) := (Keeps.refl _ _).alloc _
  refine ⟨h.keeps hk, SemStep.quiet hk, ?_, fun hx => ?_⟩
  · unfold ruleObj RlAt; refine ⟨?_, ?_, ?_, ?_, ?_, ?_⟩ <;> simp
  · have := SemMem.lt h _ hx
    omega
theorem PutAt.rd (h : PutAt W0 M vr0 vr L vq0 x r s vq W) : PutS M vr x r W :=
  ⟨h.at_.mcells.2.1, h.at_.mcells.2.2.1, h.rule, fun i hi => h.at_.byCell hi, fun i hi => h.at_.viaCell hi, fun i => free_of_heap h.at_.byo i, fun i => free_of_heap h.at_.vio i⟩
/-- Behind an append to a row: what is read, and what the store leaves. -/
theorem PutAt.grow (h : PutAt W0 M vr0 vr L vq0 x r s vq W) (hg : g < M.N + M.K) (k1 : Keeps (fun _ => False) W W1)
    (ho : TailRow W2 25 6 v ((L g).length + 1) (rlCells (L g) ++ r.cells)) (hgr : W1.grownBy W2 (vr g).ownBlock)
    (hfp : ∀ k, v.ownBlock = some k → (vr g).ownBlock = some k ∨ W1.heap.size ≤ k) :
    PutS M vr x r W2 ∧ ∀ p, rowPlace M g p → Hid (PutAt W0 M vr0 (setV vr g v) (addL L g r) vq0 x r s vq (W2.setCell p v)) := by
  have q := h.quiet k1
  have kg := keeps_grown hgr
  have hnx : (vr g).ownBlock ≠ some x := fun e => q.nx (.inr (.inr (.inr (.inr (.inr (.inl ⟨g, hg, e⟩))))))
  have hx : W2.heap[x]? = W1.heap[x]? := kg.block x (lt_of_cell q.rule.1) hnx
  have hc : ∀ i, W2.cell? ⟨x, i, none⟩ = W1.cell? ⟨x, i, none⟩ := fun i => World.cell?_of_block hx
  obtain ⟨r0, r1, r2, r3, r4, r5⟩ := q.rule
  have hm := q.at_.mko
  unfold mkObj at hm
  have rg := q.at_.rows g hg
  have om := (kg.block _ (lt_of_heap hm) (rg.type hm (by decide))).trans hm
  have ob := (kg.block _ (lt_of_heap q.at_.byo) (rg.type q.at_.byo (by decide))).trans q.at_.byo
  have ov := (kg.block _ (lt_of_heap q.at_.vio) (rg.type q.at_.vio (by decide))).trans q.at_.vio
  refine ⟨⟨by rw [cell_of_heap om]; rfl, by rw [cell_of_heap om]; rfl, ⟨(hc 0).trans r0, (hc 1).trans r1, (hc 2).trans r2, (hc 3).trans r3, (hc 4).trans r4, (hc 5).trans r5⟩,
    fun i hi => by rw [cell_of_heap ob]; exact fnRow_get _ _ _ hi, fun i hi => by rw [cell_of_heap ov]; exact fnRow_get _ _ _ hi, fun i => free_of_heap ob i, fun i => free_of_heap ov i⟩, fun p hp => ?_⟩
  obtain ⟨a, b⟩ := SemMem.growRow q.at_ hg ho kg hfp hp
  exact q.move a b
end
end Go.Proofs.YtckjgefpelnkoaaDoor
