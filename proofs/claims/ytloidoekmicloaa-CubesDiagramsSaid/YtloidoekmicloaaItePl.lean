/-
  The law's lists beside a maker of diagrams.
-/
import Derived.Test.YtloidoekmicloaaIteNew
import Derived.Test.YtloidoekmicloaaIteLitRow
set_option linter.unusedVariables false
set_option linter.unusedSimpArgs false
set_option linter.unnecessarySimpa false
namespace Go.Proofs.Ytloidoekmicloaa
open Go.ChangeShapes Go.WideShapes Go.ChangeAt Go.RowKit Go.Deep NodePlain
def numCells (l : List Int) : List Value := l.map (Value.int .i64)
def slCells (m : Nat) (bs : List Nat) : List Value := bs.map fun b => .slice (some ⟨b, 0, none⟩) m m
structure Pl (z : Nat) (W : World) (db : Nat) (V B : Int) (m : Nat) (st : St) (calls : Int) (Fp : Nat → Prop) (l : List Int) (lv : Value) (Rs : List (Nat → Bool)) (rv : Value) (bs : List Nat) : Prop where
  bd : Bd W db V B st calls Fp
  lo : W.ownsRow 0 3 1 lv l.length (numCells l)
  ro : W.ownsRow 0 35 1 rv bs.length (slCells m bs)
  l1 : bs.length = l.length
  l2 : Rs.length = l.length
  row : ∀ (i b : Nat) (R : Nat → Bool), bs[i]? = some b → Rs[i]? = some R → RowAt W b m R ∧ ¬ Fp b
  lf : ∀ x, lv.ownBlock = some x → ¬ Fp x
  rf : ∀ x, rv.ownBlock = some x → ¬ Fp x
  lz : ∀ x, lv.ownBlock = some x → z ≤ x
  rz : ∀ x, rv.ownBlock = some x → z ≤ x
section
variable {z : Nat} {W W' : World} {db : Nat} {V B : Int} {m : Nat} {st st' : St} {calls calls' : Int} {Fp Fp' : Nat → Prop} {l : List Int} {lv : Value} {Rs : List (Nat → Bool)} {rv : Value} {bs : List Nat}
theorem Pl.bss (h : Pl z W db V B m st calls Fp l lv Rs rv bs) {i b : Nat} (hb : bs[i]? = some b) : ∃ R, Rs[i]? = some R := by
  have hi : i < bs.length := by
    rcases Nat.lt_or_ge i bs.length with h | h
    · exact h
    · rw [List.getElem?_eq_none h] at hb; cases hb
  exact ⟨_, List.getElem?_eq_getElem (by have := h.l1; have := h.l2; omega)⟩
/-- Behind a call that may turn the maker's own blocks alone. -/
theorem Pl.move (h : Pl z W db V B m st calls Fp l lv Rs rv bs) (hb : Bd W' db V B st' calls' Fp') (hm : Mv W W' Fp Fp') : Pl z W' db V B m st' calls' Fp' l lv Rs rv bs := by
  refine ⟨hb, ownsRow_keeps' h.lo hm.keeps h.lf, ownsRow_keeps' h.ro hm.keeps h.rf, h.l1, h.l2, fun i b R h1 h2 => ?_, fun x hx hf => ?_, fun x hx hf => ?_, h.lz, h.rz⟩
  · obtain ⟨q1, q2⟩ := h.row i b R h1 h2
    refine ⟨q1.keeps hm.keeps q2, fun hf => ?_⟩
    rcases hm.fp b hf with hf | hf
    · exact q2 hf
    · have := lt_of_heap q1; omega
  · rcases hm.fp x hf with hf | hf
    · exact h.lf x hx hf
    · have := own_lt h.lo x hx; omega
  · rcases hm.fp x hf with hf | hf
    · exact h.rf x hx hf
    · have := own_lt h.ro x hx; omega
theorem Pl.quiet (h : Pl z W db V B m st calls Fp l lv Rs rv bs) (hk : Keeps (fun _ => False) W W') : Pl z W' db V B m st calls Fp l lv Rs rv bs := h.move (h.bd.quiet hk) (Mv.quiet hk)
/-- What a region reads. -/
theorem Pl.form (h : Pl z W db V B m st calls Fp l lv Rs rv bs) (h0 : 0 < l.length) : ∃ lb lc rb rc, lv = .slice (some ⟨lb, 0, none⟩) l.length lc ∧ rv = .slice (some ⟨rb, 0, none⟩) l.length rc ∧ l.length ≤ lc ∧ l.length ≤ rc ∧ ¬ Fp lb ∧ ¬ Fp rb ∧
    lb < W.heap.size ∧ rb < W.heap.size ∧ (∀ (i : Nat) (x : Int), l[i]? = some x → W.cell? ⟨lb, i, none⟩ = some (.int .i64 x)) ∧ (∀ (i b : Nat), bs[i]? = some b → W.cell? ⟨rb, i, none⟩ = some (.slice (some ⟨b, 0, none⟩) m m)) := by
  obtain ⟨ao, lc, e1, le1, _, n1, q1⟩ := own_form h.lo
  obtain ⟨ro, rc, e2, le2, _, n2, q2⟩ := own_form h.ro
  cases ao with
  | none => have := (n1 rfl).1; omega
  | some a =>
    cases ro with
    | none => have := (n2 rfl).1; have := h.l1; omega
    | some r =>
      obtain ⟨p1, p2, p3, _, p5⟩ := q1 a rfl
      obtain ⟨r1, r2, r3, _, r5⟩ := q2 r rfl
      obtain ⟨ab, ao, asp⟩ := a
      obtain ⟨rb, ro, rsp⟩ := r
      simp only [] at p1 p2 p3 p5 r1 r2 r3 r5
      subst p1 p2 r1 r2
      have hl1 := h.l1
      rw [hl1] at e2 le2
      refine ⟨ab, lc, rb, rc, e1, e2, le1, le2, h.lf ab (by rw [e1]; rfl), h.rf rb (by rw [e2]; rfl), p3, r3, fun i x hx => p5 i _ ?_, fun i b hb => r5 i _ ?_⟩
      · unfold numCells; rw [List.getElem?_map, hx]; rfl
      · unfold slCells; rw [List.getElem?_map, hb]; rfl
/-- One diagram more, and its row. -/
theorem Pl.push (h : Pl z W db V B m st calls Fp l lv Rs rv bs) (hz : z ≤ W.heap.size) {x : Int} {nb : Nat} {R : Nat → Bool} (hr : RowAt W nb m R) (hnf : ¬ Fp nb) {wB wC wD wE : World} (k1 : Keeps (fun _ => False) W wB) {lv' rv' : Value}
    (o1 : wC.ownsRow 0 3 1 lv' (l.length + 1) (numCells l ++ [.int .i64 x])) (g1 : wB.grownBy wC lv.ownBlock) (f1 : ∀ k, lv'.ownBlock = some k → lv.ownBlock = some k ∨ wB.heap.size ≤ k) (k2 : Keeps (fun _ => False) wC wD)
    (o2 : wE.ownsRow 0 35 1 rv' (bs.length + 1) (slCells m bs ++ [.slice (some ⟨nb, 0, none⟩) m m])) (g2 : wD.grownBy wE rv.ownBlock) (f2 : ∀ k, rv'.ownBlock = some k → rv.ownBlock = some k ∨ wD.heap.size ≤ k) :
    Pl z wE db V B m st calls Fp (l ++ [x]) lv' (Rs ++ [R]) rv' (bs ++ [nb]) ∧ ∃ S : Nat → Prop, Keeps S W wE ∧ ∀ k, S k → ¬ Fp k ∧ z ≤ k := by
  have e1 := keeps_grown g1
  have e2 := keeps_grown g2
  have hB := h.quiet k1
  have hrB := hr.keeps k1 (fun x => x)
  have sB := k1.size
  have sC := e1.size
  have sD := k2.size
  have sE := e2.size
  have nbool : ∀ (b : Nat) (Q : Nat → Bool) (w' : World) (v : Value) (t : TypeId) (n' : Nat) (xs : List Value), RowAt w' b m Q → w'.ownsRow 0 t 1 v n' xs → t ≠ 4 → v.ownBlock ≠ some b := fun b Q w' v t n' xs hq ho ht e => ht (own_type ho e hq).symm
  have kC : Keeps (fun k => lv.ownBlock = some k) W wC := (k1.mono (fun _ _ x => x.elim)).trans_new e1 (fun _ _ x => x)
  have kD : Keeps (fun k => lv.ownBlock = some k) W wD := kC.trans_new k2 (fun _ _ x => x.elim)
  have kE : Keeps (fun k => lv.ownBlock = some k ∨ rv.ownBlock = some k) W wE := (kD.mono (fun _ _ x => .inl x)).trans_new e2 (fun _ _ x => .inr x)
  have hlr : ∀ k, lv.ownBlock = some k → rv.ownBlock ≠ some k := fun k hk hk2 => by
    obtain ⟨_, ⟨hv, _⟩ | ⟨g, cap, cur, hv, _, hh, _⟩⟩ := h.lo
    · rw [hv] at hk; cases hk
    · rw [hv] at hk
      simp only [Value.ownBlock, Option.some.injEq] at hk
      subst hk
      have := own_type h.ro hk2 hh
      revert this; decide
  have fl : ∀ k, lv'.ownBlock = some k → ¬ Fp k := fun k hk hf => by
    rcases f1 k hk with e | e
    · exact h.lf k e hf
    · have := h.bd.lt k hf; omega
  have fr : ∀ k, rv'.ownBlock = some k → ¬ Fp k := fun k hk hf => by
    rcases f2 k hk with e | e
    · exact h.rf k e hf
    · have := h.bd.lt k hf; omega
  refine ⟨⟨h.bd.keeps kE (fun k hf hs => ?_), ?_, ?_, by simp [h.l1], by simp [h.l2], ?_, fl, fr, ?_, ?_⟩, _, kE, fun k hk => ?_⟩
  · rcases hs with e | e
    · exact h.lf k e hf
    · exact h.rf k e hf
  · have o1' : wE.ownsRow 0 3 1 lv' (l.length + 1) (numCells l ++ [.int .i64 x]) := ownsRow_keeps' (ownsRow_keeps' o1 k2 (fun _ _ x => x)) e2 (fun k hk hk2 => by
      rcases f1 k hk with e | e
      · exact hlr k e hk2
      · have := own_lt hB.ro k hk2; omega)
    rw [List.length_append, show numCells (l ++ [x]) = numCells l ++ [.int .i64 x] from by simp [numCells]]
    exact o1'
  · rw [List.length_append, show slCells m (bs ++ [nb]) = slCells m bs ++ [.slice (some ⟨nb, 0, none⟩) m m] from by simp [slCells]]
    exact o2
  · intro i b Q h1 h2
    have hl := h.l1
    have hl2 := h.l2
    rcases Nat.lt_or_ge i bs.length with hi | hi
    · rw [List.getElem?_append_left hi] at h1
      rw [List.getElem?_append_left (by omega)] at h2
      obtain ⟨q1, q2⟩ := h.row i b Q h1 h2
      refine ⟨q1.keeps kE (fun hs => ?_), q2⟩
      rcases hs with e | e
      · exact nbool b Q W lv _ _ _ q1 h.lo (by decide) e
      · exact nbool b Q W rv _ _ _ q1 h.ro (by decide) e
    · rw [List.getElem?_append_right hi] at h1
      rw [List.getElem?_append_right (by omega)] at h2
      have e0 : i - bs.length = 0 := by
        rcases Nat.eq_zero_or_pos (i - bs.length) with e | e
        · exact e
        · rw [List.getElem?_eq_none (by simp; omega)] at h1; cases h1
      rw [e0] at h1
      rw [show i - Rs.length = 0 from by omega] at h2
      simp at h1 h2
      subst h1 h2
      refine ⟨hr.keeps kE (fun hs => ?_), hnf⟩
      rcases hs with e | e
      · exact nbool _ _ W lv _ _ _ hr h.lo (by decide) e
      · exact nbool _ _ W rv _ _ _ hr h.ro (by decide) e
  · intro k hk
    rcases f1 k hk with e | e
    · exact h.lz k e
    · omega
  · intro k hk
    rcases f2 k hk with e | e
    · exact h.rz k e
    · omega
  · rcases hk with e | e
    · exact ⟨h.lf k e, h.lz k e⟩
    · exact ⟨h.rf k e, h.rz k e⟩
theorem Pl.ro_keep (h : Pl z W db V B m st calls Fp l lv Rs rv bs) {wB wC wD : World} (k1 : Keeps (fun _ => False) W wB) (g1 : wB.grownBy wC lv.ownBlock) (k2 : Keeps (fun _ => False) wC wD) : wD.ownsRow 0 35 1 rv bs.length (slCells m bs) := by
  have hlr : ∀ k, lv.ownBlock = some k → rv.ownBlock ≠ some k := fun k hk hk2 => by
    obtain ⟨_, ⟨hv, _⟩ | ⟨g, cap, cur, hv, _, hh, _⟩⟩ := h.lo
    · rw [hv] at hk; cases hk
    · rw [hv] at hk
      simp only [Value.ownBlock, Option.some.injEq] at hk
      subst hk
      have := own_type h.ro hk2 hh
      revert this; decide
  exact ownsRow_keeps' (ownsRow_keeps' (ownsRow_keeps' h.ro k1 (fun _ _ x => x)) (keeps_grown g1) (fun k hk hk2 => hlr k hk2 hk)) k2 (fun _ _ x => x)
theorem Mv.old {W1 W2 : World} {Fp0 Fp1 : Nat → Prop} {S : Nat → Prop} (h : Mv W W1 Fp0 Fp1) (hk : Keeps S W1 W2) (hs : ∀ k, S k → W.heap.size ≤ k) : Mv W W2 Fp0 Fp1 :=
  ⟨h.keeps.trans_new hk (fun i hi hS => by have := hs i hS; omega), h.fp⟩
theorem intInfo2 : (Try.prog.info? 3).map (fun i => (i.zero, i.size, i.bytes)) = some (some (.int .i64 0), 1, 8) := by kernel_rfl
theorem sbInfo : (Try.prog.info? 35).map (fun i => (i.zero, i.size, i.bytes)) = some (some (.slice none 0 0), 1, 24) := by kernel_rfl
end
end Go.Proofs.Ytloidoekmicloaa
