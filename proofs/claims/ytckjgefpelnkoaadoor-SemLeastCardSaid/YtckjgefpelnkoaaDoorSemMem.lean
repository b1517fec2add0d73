/-
  The maker of a model in memory: its fields, the rows of rules, the queue.
-/
import Derived.Test.YtckjgefpelnkoaaDoorSemRow
import Derived.Test.YtckjgefpelnkoaaDoorSetNew
import Derived.Test.YtckjgefpelnkoaaDoorSetAdd
set_option linter.unusedVariables false
set_option linter.unusedSimpArgs false
namespace Go.Proofs.YtckjgefpelnkoaaDoor
open Go.ChangeShapes Go.WideShapes Go.ChangeAt Go.RowKit Go.Deep SetPlain

/-- A rule by its numbers. -/
structure Rl where
  kind : Int
  head : Int
  who : Int
  a : Int
  b : Int
  via : Int
deriving DecidableEq
def Rl.cells (r : Rl) : List Value := [.int .i64 r.kind, .int .i64 r.head, .int .i64 r.who, .int .i64 r.a, .int .i64 r.b, .int .i64 r.via]
def rlCells : List Rl → List Value
  | [] => []
  | r :: l => r.cells ++ rlCells l
def fcCells : List (Nat × Nat) → List Value
  | [] => []
  | f :: l => [.int .i64 f.1, .int .i64 f.2] ++ fcCells l
theorem rlCells_length : ∀ l, (rlCells l).length = l.length * 6
  | [] => rfl
  | r :: l => by rw [rlCells, List.length_append, rlCells_length l, show (r :: l).length = l.length + 1 from rfl, Nat.succ_mul, Nat.add_comm]; rfl
theorem fcCells_length : ∀ l, (fcCells l).length = l.length * 2
  | [] => rfl
  | r :: l => by rw [fcCells, List.length_append, fcCells_length l, show (r :: l).length = l.length + 1 from rfl, Nat.succ_mul, Nat.add_comm]; rfl
theorem rlCells_append : ∀ l m, rlCells (l ++ m) = rlCells l ++ rlCells m
  | [], m => rfl
  | r :: l, m => by rw [List.cons_append, rlCells, rlCells, rlCells_append l m, List.append_assoc]
theorem fcCells_append : ∀ l m, fcCells (l ++ m) = fcCells l ++ fcCells m
  | [], m => rfl
  | r :: l, m => by rw [List.cons_append, fcCells, fcCells, fcCells_append l m, List.append_assoc]
theorem rlCells_get : ∀ (l : List Rl) (i : Nat) (r : Rl), l[i]? = some r → ∀ (j : Nat) (u : Value), r.cells[j]? = some u → (rlCells l)[i * 6 + j]? = some u
  | [], _, _, h, _, _, _ => by cases h
  | x :: l, 0, r, h, j, u, hu => by
    simp only [List.getElem?_cons_zero, Option.some.injEq] at h
    subst h
    have hj : j < x.cells.length := by
      rcases Nat.lt_or_ge j x.cells.length with h | h
      · exact h
      · rw [List.getElem?_eq_none h] at hu; cases hu
    rw [rlCells, Nat.zero_mul, Nat.zero_add, List.getElem?_append_left hj]
    exact hu
  | x :: l, i + 1, r, h, j, u, hu => by
    rw [List.getElem?_cons_succ] at h
    rw [rlCells, List.getElem?_append_right (by show 6 ≤ _; omega), show (i + 1) * 6 + j - x.cells.length = i * 6 + j from by show (i + 1) * 6 + j - 6 = _; omega]
    exact rlCells_get l i r h j u hu

/-- Where a maker lies. -/
structure Mk where
  mb : Nat
  mo : Nat
  fb : Nat
  bw : Nat
  rb : Nat → Nat
  bb : Nat
  vb : Nat
  P : Nat
  K : Nat
def Mk.N (M : Mk) : Nat := M.P * M.K
def semFp (M : Mk) (vr : Nat → Value) (vq : Value) : Nat → Prop := fun k =>
  k = M.mb ∨ k = M.mo ∨ famFp M.fb M.bw M.rb M.N k ∨ k = M.bb ∨ k = M.vb ∨ (∃ i, i < M.N + M.K ∧ (vr i).ownBlock = some k) ∨ vq.ownBlock = some k
def mkObj (M : Mk) (vq : Value) : Obj := .cells #[.pointer (some ⟨M.mo, 0, none⟩), .slice (some ⟨M.bb, 0, none⟩) M.N M.N, .slice (some ⟨M.vb, 0, none⟩) M.K M.K, vq] 54 (0, 0)
def moObj (M : Mk) (steps : Nat) : Obj := .cells #[.pointer (some ⟨M.fb, 0, none⟩), .int .i64 M.P, .int .i64 M.K, .int .i64 steps] 50 (0, 0)
structure SemMem (W : World) (M : Mk) (vr : Nat → Value) (L : Nat → List Rl) (In : Nat → Nat → Bool) (tot steps : Nat) (vq : Value) (q : List (Nat × Nat)) : Prop where
  mko : W.heap[M.mb]? = some (mkObj M vq)
  moo : W.heap[M.mo]? = some (moObj M steps)
  fam : FamMem W M.fb M.bw M.rb M.N M.P In tot
  byo : W.heap[M.bb]? = some (.cells (fnRow vr M.N) 23 (0, 0))
  vio : W.heap[M.vb]? = some (.cells (fnRow (fun v => vr (M.N + v)) M.K) 23 (0, 0))
  rows : ∀ i, i < M.N + M.K → TailRow W 25 6 (vr i) (L i).length (rlCells (L i))
  inj : ∀ i j, i < M.N + M.K → j < M.N + M.K → ∀ g, (vr i).ownBlock = some g → (vr j).ownBlock = some g → i = j
  que : TailRow W 57 2 vq q.length (fcCells q)
  hP : M.P ≤ 64
  hK : M.K ≤ 64
  bv : M.bb ≠ M.vb
theorem ne_of_type {W : World} {a b : Nat} {c1 c2 : Array Value} {t1 t2 : TypeId} {f1 f2 : Nat × Nat} (h1 : W.heap[a]? = some (.cells c1 t1 f1)) (h2 : W.heap[b]? = some (.cells c2 t2 f2)) (h : t1 ≠ t2) : a ≠ b := fun e => by
  subst e
  rw [h1] at h2
  simp only [Option.some.injEq, Obj.cells.injEq] at h2
  exact h h2.2.1
theorem famFp_type {W : World} {b bw : Nat} {rb : Nat → Nat} {R C : Nat} {In : Nat → Nat → Bool} {tot : Nat} (h : FamMem W b bw rb R C In tot) {k : Nat} (hk : famFp b bw rb R k) : ∃ c t, W.heap[k]? = some (.cells c t (0, 0)) ∧ (t = 64 ∨ t = 65 ∨ t = 69) := by
  rcases hk with rfl | rfl | ⟨i, hi, rfl⟩
  · exact ⟨_, _, h.obj, .inl rfl⟩
  · exact ⟨_, _, h.rows, .inr (.inl rfl)⟩
  · exact ⟨_, _, h.row i hi, .inr (.inr rfl)⟩
theorem famFp_ne {W : World} {b bw : Nat} {rb : Nat → Nat} {R C : Nat} {In : Nat → Nat → Bool} {tot : Nat} (h : FamMem W b bw rb R C In tot) {x : Nat} {c2 : Array Value} {t2 : TypeId} {f2 : Nat × Nat} (h2 : W.heap[x]? = some (.cells c2 t2 f2)) (n1 : t2 ≠ 64) (n2 : t2 ≠ 65) (n3 : t2 ≠ 69) : ¬ famFp b bw rb R x := fun hk => by
  obtain ⟨c, t, hc, ht⟩ := famFp_type h hk
  rw [hc] at h2
  simp only [Option.some.injEq, Obj.cells.injEq] at h2
  rcases ht with rfl | rfl | rfl
  · exact n1 h2.2.1.symm
  · exact n2 h2.2.1.symm
  · exact n3 h2.2.1.symm
section
variable {W : World} {M : Mk} {vr : Nat → Value} {L : Nat → List Rl} {In : Nat → Nat → Bool} {tot steps : Nat} {vq : Value} {q : List (Nat × Nat)}
theorem SemMem.lt (h : SemMem W M vr L In tot steps vq q) : ∀ k, semFp M vr vq k → k < W.heap.size := by
  rintro k (rfl | rfl | hk | rfl | rfl | ⟨i, hi, hk⟩ | hk)
  · exact lt_of_heap h.mko
  · exact lt_of_heap h.moo
  · exact h.fam.lt k hk
  · exact lt_of_heap h.byo
  · exact lt_of_heap h.vio
  · obtain ⟨c, hc⟩ := (h.rows i hi).lt k hk; exact lt_of_heap hc
  · obtain ⟨c, hc⟩ := h.que.lt k hk; exact lt_of_heap hc
theorem SemMem.keeps (h : SemMem W M vr L In tot steps vq q) {S : Nat → Prop} {W' : World} (hk : Keeps S W W') (hs : ∀ k, semFp M vr vq k → ¬ S k) : SemMem W' M vr L In tot steps vq q :=
  ⟨(hk.block _ (lt_of_heap h.mko) (hs _ (.inl rfl))).trans h.mko, (hk.block _ (lt_of_heap h.moo) (hs _ (.inr (.inl rfl)))).trans h.moo,
    h.fam.keeps hk (fun k x => hs _ (.inr (.inr (.inl x)))), (hk.block _ (lt_of_heap h.byo) (hs _ (.inr (.inr (.inr (.inl rfl)))))).trans h.byo,
    (hk.block _ (lt_of_heap h.vio) (hs _ (.inr (.inr (.inr (.inr (.inl rfl))))))).trans h.vio,
    fun i hi => (h.rows i hi).keeps hk (fun k x => hs _ (.inr (.inr (.inr (.inr (.inr (.inl ⟨i, hi, x⟩))))))), h.inj,
    h.que.keeps hk (fun k x => hs _ (.inr (.inr (.inr (.inr (.inr (.inr x))))))), h.hP, h.hK, h.bv⟩
theorem SemMem.setSteps (h : SemMem W M vr L In tot steps vq q) (s : Nat) : SemMem (W.setCell ⟨M.mo, 3, none⟩ (.int .i64 s)) M vr L In tot s vq q := by
  have hk := Keeps.setCell (S := fun k => k = M.mo) (Keeps.refl _ W) (p := ⟨M.mo, 3, none⟩) (fun _ => rfl) (.int .i64 (s : Int))
  have hm := h.moo
  unfold moObj at hm
  exact ⟨(hk.block _ (lt_of_heap h.mko) (ne_of_type h.mko hm (by decide))).trans h.mko, heap_set hm 3 _,
    h.fam.keeps hk (fun k x e => by subst e; exact famFp_ne h.fam hm (by decide) (by decide) (by decide) x),
    (hk.block _ (lt_of_heap h.byo) (ne_of_type h.byo hm (by decide))).trans h.byo, (hk.block _ (lt_of_heap h.vio) (ne_of_type h.vio hm (by decide))).trans h.vio,
    fun i hi => (h.rows i hi).keeps hk (fun k x e => by subst e; exact (h.rows i hi).type hm (by decide) x), h.inj,
    h.que.keeps hk (fun k x e => by subst e; exact h.que.type hm (by decide) x), h.hP, h.hK, h.bv⟩
theorem SemMem.setFam (h : SemMem W M vr L In tot steps vq q) {W' : World} {In2 : Nat → Nat → Bool} {tot2 : Nat} (hf : FamMem W' M.fb M.bw M.rb M.N M.P In2 tot2) (hk : Keeps (famFp M.fb M.bw M.rb M.N) W W') : SemMem W' M vr L In2 tot2 steps vq q := by
  exact ⟨(hk.block _ (lt_of_heap h.mko) (famFp_ne h.fam h.mko (by decide) (by decide) (by decide))).trans h.mko, (hk.block _ (lt_of_heap h.moo) (famFp_ne h.fam h.moo (by decide) (by decide) (by decide))).trans h.moo,
    hf, (hk.block _ (lt_of_heap h.byo) (famFp_ne h.fam h.byo (by decide) (by decide) (by decide))).trans h.byo, (hk.block _ (lt_of_heap h.vio) (famFp_ne h.fam h.vio (by decide) (by decide) (by decide))).trans h.vio,
    fun i hi => (h.rows i hi).keeps hk (fun k x => by obtain ⟨c, hc⟩ := (h.rows i hi).lt k x; exact famFp_ne h.fam hc (by decide) (by decide) (by decide)), h.inj,
    h.que.keeps hk (fun k x => by obtain ⟨c, hc⟩ := h.que.lt k x; exact famFp_ne h.fam hc (by decide) (by decide) (by decide)), h.hP, h.hK, h.bv⟩
theorem SemMem.setQueue (h : SemMem W M vr L In tot steps vq q) {W' : World} {vq' : Value} {q' : List (Nat × Nat)} (hq : TailRow W' 57 2 vq' q'.length (fcCells q')) (hk : Keeps (fun k => vq.ownBlock = some k) W W') :
    SemMem (W'.setCell ⟨M.mb, 3, none⟩ vq') M vr L In tot steps vq' q' := by
  have hown : ∀ (k : Nat) (c : Array Value) (t : TypeId) (f : Nat × Nat), W.heap[k]? = some (.cells c t f) → t ≠ 57 → W'.heap[k]? = W.heap[k]? := fun k c t f hc ht => hk.block k (lt_of_heap hc) (h.que.type hc ht)
  have hm := (hown _ _ _ _ h.mko (by decide)).trans h.mko
  unfold mkObj at hm
  have h2 := Keeps.setCell (S := fun k => k = M.mb) (Keeps.refl _ W') (p := ⟨M.mb, 3, none⟩) (fun _ => rfl) vq'
  have hoth : ∀ (k : Nat) (c : Array Value) (t : TypeId) (f : Nat × Nat), W.heap[k]? = some (.cells c t f) → t ≠ 57 → t ≠ 54 → (W'.setCell ⟨M.mb, 3, none⟩ vq').heap[k]? = some (.cells c t f) := fun k c t f hc ht ht2 => by
    have h1 := (hown k c t f hc ht).trans hc
    exact (h2.block k (lt_of_heap h1) (ne_of_type h1 hm ht2)).trans h1
  have hk2 : ∀ (k : Nat) (c : Array Value) (t : TypeId) (f : Nat × Nat), W.heap[k]? = some (.cells c t f) → t ≠ 57 → t ≠ 54 → (W'.setCell ⟨M.mb, 3, none⟩ vq').heap[k]? = W.heap[k]? := fun k c t f hc ht ht2 => (hoth k c t f hc ht ht2).trans hc.symm
  have hf := h.fam
  refine ⟨heap_set hm 3 _, hoth _ _ _ _ h.moo (by decide) (by decide), ⟨hoth _ _ _ _ hf.obj (by decide) (by decide), hoth _ _ _ _ hf.rows (by decide) (by decide), fun i hi => hoth _ _ _ _ (hf.row i hi) (by decide) (by decide), hf.inj, hf.out, hf.hR, hf.hC⟩,
    hoth _ _ _ _ h.byo (by decide) (by decide), hoth _ _ _ _ h.vio (by decide) (by decide), fun i hi => ?_, h.inj, hq.keeps h2 (fun k x e => by subst e; exact hq.type hm (by decide) x), h.hP, h.hK, h.bv⟩
  obtain ⟨l, r⟩ := h.rows i hi
  refine ⟨l, r.imp id ?_⟩
  rintro ⟨g, k, cap, cur, hv, hh, r⟩
  exact ⟨g, k, cap, cur, hv, hoth _ _ _ _ hh (by decide) (by decide), r⟩
end
end Go.Proofs.YtckjgefpelnkoaaDoor
