/-
  With a lesser budget it is the same, till it is spent. No program in sight.
-/
import Derived.Test.YtloidoekmicloaaIteOps
set_option linter.unusedVariables false
set_option linter.unusedSimpArgs false
set_option linter.unnecessarySimpa false
namespace Go.Proofs.Ytloidoekmicloaa
open Go.ChangeShapes Go.WideShapes Go.ChangeAt Go.RowKit Go.Deep NodePlain
section
variable {V B B' : Int}
/-- Behind a state there are no fewer nodes, and what was spent is spent. -/
structure Up (st st' : St) : Prop where
  n : st.n ≤ st'.n
  s : st.s = true → st'.s = true
theorem Up.refl (st : St) : Up st st := ⟨Nat.le_refl _, fun h => h⟩
theorem Up.trans {a b c : St} (h : Up a b) (k : Up b c) : Up a c := ⟨Nat.le_trans h.n k.n, fun e => k.s (h.s e)⟩
theorem makeM_up (V B : Int) (st : St) (v lo hi : Int) : Up st (makeM V B st v lo hi).2 := by
  refine ⟨?_, fun h => ?_⟩
  · show st.n ≤ (resN V B st.L st.n v lo hi).len st.n
    cases resN V B st.L st.n v lo hi <;> simp [Res.len]
  · show (resN V B st.L st.n v lo hi).out st.s = true
    cases resN V B st.L st.n v lo hi <;> simp [Res.out, h]
theorem head_up {st : St} {f g h : Int} {k : Unit → Int × St} (hk : Up st (k ()).2) : Up st (iteHead st f g h k).2 := by
  unfold iteHead
  split
  · exact Up.refl _
  split
  · exact Up.refl _
  split
  · exact Up.refl _
  split
  · exact ⟨Nat.le_refl _, fun h => h⟩
  · exact hk
theorem iteC_up (V B f g h v lo : Int) (b : Int × St) : Up b.2 (iteC V B f g h v lo b).2 := by
  unfold iteC
  split
  · exact Up.refl _
  · have m := makeM_up V B b.2 v lo b.1
    show Up b.2 (if (makeM V B b.2 v lo b.1).2.s = true then (makeM V B b.2 v lo b.1).2 else { (makeM V B b.2 v lo b.1).2 with F := _ })
    split
    · exact m
    · exact ⟨m.n, m.s⟩
theorem iteM_up (V B : Int) : ∀ (d : Nat) (st : St) (f g h : Int), Up st (iteM V B d st f g h).2
  | 0, st, f, g, h => head_up (Up.refl _)
  | d + 1, st, f, g, h => by
    refine head_up ?_
    show Up st (iteStep V B (iteM V B d) st f g h).2
    unfold iteStep iteB
    have h1 := iteM_up V B d st (halfN st.L st.n f (mn V st.L st.n f g h) false) (halfN st.L st.n g (mn V st.L st.n f g h) false) (halfN st.L st.n h (mn V st.L st.n f g h) false)
    split
    · exact h1
    · exact h1.trans ((iteM_up V B d _ _ _ _).trans (iteC_up V B f g h _ _ _))
theorem iteB_up (V B : Int) (d : Nat) (f g h v : Int) (a : Int × St) : Up a.2 (iteB V B (iteM V B d) f g h v a).2 := by
  unfold iteB
  split
  · exact Up.refl _
  · exact (iteM_up V B d _ _ _ _).trans (iteC_up V B f g h _ _ _)
/-- The lesser budget's run and the greater one's. -/
def Sim (B : Int) (a a' : Int × St) : Prop := (a.2.s = false → a' = a) ∧ (a.2.s = true → a'.2.s = true ∨ B < a'.2.n)
theorem Sim.refl (B : Int) {a : Int × St} (h : a.2.s = false) : Sim B a a := ⟨fun _ => rfl, fun e => by rw [h] at e; cases e⟩
theorem makeM_sim (hB : B ≤ B') {st : St} (hs : st.s = false) (v lo hi : Int) : Sim B (makeM V B st v lo hi) (makeM V B' st v lo hi) := by
  have key : resN V B' st.L st.n v lo hi = resN V B st.L st.n v lo hi ∨ (resN V B st.L st.n v lo hi = .spent ∧ B ≤ st.n ∧ resN V B' st.L st.n v lo hi = .new) := by
    unfold resN
    split
    · split
      · exact .inl rfl
      · split
        · exact .inl rfl
        · by_cases h1 : B ≤ st.n
          · by_cases h2 : B' ≤ st.n
            · rw [if_pos h1, if_pos h2]; exact .inl rfl
            · rw [if_pos h1, if_neg h2]; exact .inr ⟨rfl, h1, rfl⟩
          · rw [if_neg h1, if_neg (by omega)]; exact .inl rfl
    · exact .inl rfl
  rcases key with e | ⟨e1, h1, e2⟩
  · have e3 : makeM V B' st v lo hi = makeM V B st v lo hi := by unfold makeM; rw [e]
    rw [e3]
    exact ⟨fun _ => rfl, fun h => .inl h⟩
  · refine ⟨fun h => ?_, fun _ => .inr ?_⟩
    · have : (resN V B st.L st.n v lo hi).out st.s = false := h
      rw [e1] at this; cases this
    · show B < (((resN V B' st.L st.n v lo hi).len st.n : Nat) : Int)
      rw [e2]
      show B < ((st.n + 1 : Nat) : Int)
      omega
theorem head_sim {st : St} (hs : st.s = false) {f g h : Int} {k k' : Unit → Int × St} (hk : Sim B (k ()) (k' ())) : Sim B (iteHead st f g h k) (iteHead st f g h k') := by
  unfold iteHead
  split
  · exact Sim.refl B hs
  split
  · exact Sim.refl B hs
  split
  · exact Sim.refl B hs
  split
  · exact Sim.refl B hs
  · exact hk
theorem Sim.up {a a' b' : Int × St} (h : a'.2.s = true ∨ B < a'.2.n) (u : Up a'.2 b'.2) : b'.2.s = true ∨ B < b'.2.n := h.imp u.s (fun h => by have := u.n; omega)
/-- An answer kept, where not all is spent. -/
def kept (f g h : Int) (m : Int × St) : Int × St := (m.1, if m.2.s = true then m.2 else { m.2 with F := keep 4096 m.2.F 0 f g h m.1 })
theorem iteC_no (V B : Int) (f g h v lo : Int) {b : Int × St} (hb : b.2.s = false) : iteC V B f g h v lo b = kept f g h (makeM V B b.2 v lo b.1) := by
  unfold iteC
  rw [hb]
  rfl
theorem kept_up (f g h : Int) (m : Int × St) : Up m.2 (kept f g h m).2 := by
  unfold kept
  show Up m.2 (if m.2.s = true then m.2 else { m.2 with F := _ })
  split
  · exact Up.refl _
  · exact ⟨Nat.le_refl _, fun h => h⟩
theorem kept_s (f g h : Int) (m : Int × St) : (kept f g h m).2.s = m.2.s := by
  unfold kept
  show (if m.2.s = true then m.2 else { m.2 with F := _ }).s = m.2.s
  split <;> rfl
theorem iteC_sim (hB : B ≤ B') (f g h v lo : Int) {b : Int × St} (hb : b.2.s = false) : Sim B (iteC V B f g h v lo b) (iteC V B' f g h v lo b) := by
  rw [iteC_no V B f g h v lo hb, iteC_no V B' f g h v lo hb]
  obtain ⟨m1, m2⟩ := makeM_sim (V := V) hB hb v lo b.1
  refine ⟨fun e => ?_, fun e => ?_⟩
  · rw [kept_s] at e
    rw [m1 e]
  · rw [kept_s] at e
    exact Sim.up (a := makeM V B b.2 v lo b.1) (m2 e) (kept_up f g h _)
theorem iteM_sim (hB : B ≤ B') : ∀ (d : Nat) (st : St) (f g h : Int), st.s = false → Sim B (iteM V B d st f g h) (iteM V B' d st f g h)
  | 0, st, f, g, h, hs => head_sim hs (Sim.refl B hs)
  | d + 1, st, f, g, h, hs => by
    refine head_sim hs ?_
    show Sim B (iteStep V B (iteM V B d) st f g h) (iteStep V B' (iteM V B' d) st f g h)
    unfold iteStep
    generalize mn V st.L st.n f g h = v
    obtain ⟨a1, a2⟩ := iteM_sim hB d st (halfN st.L st.n f v false) (halfN st.L st.n g v false) (halfN st.L st.n h v false) hs
    generalize iteM V B d st (halfN st.L st.n f v false) (halfN st.L st.n g v false) (halfN st.L st.n h v false) = a at a1 a2 ⊢
    generalize iteM V B' d st (halfN st.L st.n f v false) (halfN st.L st.n g v false) (halfN st.L st.n h v false) = a' at a1 a2 ⊢
    cases ha : a.2.s with
    | true =>
      have e : iteB V B (iteM V B d) f g h v a = (0, a.2) := by unfold iteB; rw [if_pos ha]
      rw [e]
      exact ⟨(fun e => by have h2 : a.2.s = false := e; rw [ha] at h2; cases h2), fun _ => Sim.up (a := a) (a2 ha) (iteB_up V B' d f g h v a')⟩
    | false =>
      rw [a1 ha]
      unfold iteB
      rw [if_neg (by rw [ha]; decide), if_neg (by rw [ha]; decide)]
      obtain ⟨b1, b2⟩ := iteM_sim hB d a.2 (halfN a.2.L a.2.n f v true) (halfN a.2.L a.2.n g v true) (halfN a.2.L a.2.n h v true) ha
      generalize iteM V B d a.2 (halfN a.2.L a.2.n f v true) (halfN a.2.L a.2.n g v true) (halfN a.2.L a.2.n h v true) = b at b1 b2 ⊢
      generalize iteM V B' d a.2 (halfN a.2.L a.2.n f v true) (halfN a.2.L a.2.n g v true) (halfN a.2.L a.2.n h v true) = b' at b1 b2 ⊢
      cases hb : b.2.s with
      | true =>
        have e : iteC V B f g h v a.1 b = (0, b.2) := by unfold iteC; rw [if_pos hb]
        rw [e]
        exact ⟨(fun e => by have h2 : b.2.s = false := e; rw [hb] at h2; cases h2), fun _ => Sim.up (a := b) (b2 hb) (iteC_up V B' f g h v a.1 b')⟩
      | false =>
        rw [b1 hb]
        exact iteC_sim hB f g h v a.1 hb
end
end Go.Proofs.Ytloidoekmicloaa
/-
  If-then-else: where its answers are true, and how many nodes there are. No program in sight.
-/
set_option linter.unusedVariables false
set_option linter.unusedSimpArgs false
set_option linter.unnecessarySimpa false
namespace Go.Proofs.Ytloidoekmicloaa
open Go.ChangeShapes Go.WideShapes Go.ChangeAt Go.RowKit Go.Deep NodePlain
/-- Two diagrams that are true at the same bits are one. -/
theorem once_bits {V : Int} {L : Nat → Nd} {n : Nat} (g : NodePlain.Good V L n) (K : Nat) (hV : V = (K : Int)) {a b : Int} (ha : isN n a = true) (hb : isN n b = true) (h : ∀ j, j < 2 ^ K → ev L (Nat.testBit j) a = ev L (Nat.testBit j) b) : a = b := by
  rw [isN_iff] at ha hb
  exact canon g (n + 2) a b (by omega) (by omega) (by omega) (by omega) (by omega) (by omega) (fun β => by
    have e1 := ev_below g (b1 := β) (b2 := Nat.testBit (ofB β K)) (fun x hx => (ofB_test β K x (by omega)).symm) (n + 2) a (by omega) (by omega)
    have e2 := ev_below g (b1 := β) (b2 := Nat.testBit (ofB β K)) (fun x hx => (ofB_test β K x (by omega)).symm) (n + 2) b (by omega) (by omega)
    rw [e1, e2]
    exact h _ (ofB_lt β K))
section
variable {V B : Int}
/-- No more nodes than the budget; all is spent just where there are so many. -/
def Bnd (B : Int) (st st' : St) : Prop := (st.n ≤ B ∧ (st.s = true → B ≤ st.n)) → (st'.n ≤ B ∧ (st'.s = true → B ≤ st'.n))
theorem Bnd.refl (st : St) : Bnd B st st := fun h => h
theorem Bnd.trans {a b c : St} (h : Bnd B a b) (k : Bnd B b c) : Bnd B a c := fun e => k (h e)
theorem makeM_bnd (st : St) (v lo hi : Int) : Bnd B st (makeM V B st v lo hi).2 := by
  rintro ⟨h1, h2⟩
  show (((resN V B st.L st.n v lo hi).len st.n : Nat) : Int) ≤ B ∧ ((resN V B st.L st.n v lo hi).out st.s = true → B ≤ (((resN V B st.L st.n v lo hi).len st.n : Nat) : Int))
  unfold resN
  split
  · split
    · exact ⟨h1, h2⟩
    · split
      · exact ⟨h1, h2⟩
      · by_cases hb : B ≤ st.n
        · rw [if_pos hb]; exact ⟨h1, fun _ => hb⟩
        · rw [if_neg hb]
          refine ⟨?_, fun e => ?_⟩
          · show ((st.n + 1 : Nat) : Int) ≤ B; omega
          · have := h2 e; omega
  · exact ⟨h1, h2⟩
theorem head_bnd {st : St} {f g h : Int} {k : Unit → Int × St} (hk : Bnd B st (k ()).2) : Bnd B st (iteHead st f g h k).2 := by
  unfold iteHead
  split
  · exact Bnd.refl _
  split
  · exact Bnd.refl _
  split
  · exact Bnd.refl _
  split
  · exact fun h => h
  · exact hk
theorem iteC_bnd (f g h v lo : Int) (b : Int × St) : Bnd B b.2 (iteC V B f g h v lo b).2 := by
  unfold iteC
  split
  · exact Bnd.refl _
  · have m := makeM_bnd (V := V) (B := B) b.2 v lo b.1
    show Bnd B b.2 (if (makeM V B b.2 v lo b.1).2.s = true then (makeM V B b.2 v lo b.1).2 else { (makeM V B b.2 v lo b.1).2 with F := _ })
    split
    · exact m
    · exact fun h => m h
theorem iteM_bnd : ∀ (d : Nat) (st : St) (f g h : Int), Bnd B st (iteM V B d st f g h).2
  | 0, st, f, g, h => head_bnd (Bnd.refl _)
  | d + 1, st, f, g, h => by
    refine head_bnd ?_
    show Bnd B st (iteStep V B (iteM V B d) st f g h).2
    unfold iteStep iteB
    have h1 := iteM_bnd d st (halfN st.L st.n f (mn V st.L st.n f g h) false) (halfN st.L st.n g (mn V st.L st.n f g h) false) (halfN st.L st.n h (mn V st.L st.n f g h) false)
    split
    · exact h1
    · exact h1.trans ((iteM_bnd d _ _ _ _).trans (iteC_bnd f g h _ _ _))
theorem makeM_few (st : St) (v lo hi : Int) : (makeM V B st v lo hi).2.n ≤ st.n + 1 := by
  show (resN V B st.L st.n v lo hi).len st.n ≤ st.n + 1
  cases resN V B st.L st.n v lo hi <;> simp [Res.len]
theorem opG_no {st : St} (h : st.s = false) (k : Int × St) : opG st k = k := by unfold opG; rw [if_neg (by rw [h]; decide)]
end
section
variable {V B : Int} {st : St} {K : Nat}
theorem ev0 (L : Nat → Nd) (β : Nat → Bool) : ev L β 0 = false := by rw [ev_low _ _ _ (by omega)]; rfl
theorem ev1 (L : Nat → Nd) (β : Nat → Bool) : ev L β 1 = true := by rw [ev_low _ _ _ (by omega)]; rfl
theorem not_spent {a b : St} (u : Up a b) (h : b.s = false) : a.s = false := by
  cases e : a.s with
  | false => rfl
  | true => rw [u.s e] at h; cases h
theorem iteT_ev (hV0 : 0 ≤ V) (ok : Ok V st) {f g h : Int} (hf : isN st.n f = true) (hg : isN st.n g = true) (hh : isN st.n h = true) (hs : (iteT V B st f g h).2.s = false) (β : Nat → Bool) : ev (iteT V B st f g h).2.L β (iteT V B st f g h).1 = if ev st.L β f then ev st.L β g else ev st.L β h := by
  have p := iteT_ok (B := B) hV0 ok hf hg hh
  rw [isN_iff] at hf hg hh
  rw [(p.sem hs).ev β, p.ext.ev ok.good β hf.2, p.ext.ev ok.good β hg.2, p.ext.ev ok.good β hh.2]
theorem lit_ev (ok : Ok V st) {k v : Nat} (hk : V = (k : Int)) (hs : (makeM V B st v 0 1).2.s = false) (β : Nat → Bool) : ev (makeM V B st v 0 1).2.L β (makeM V B st v 0 1).1 = (decide (v < k) && β v) := by
  have low : ∀ x : Int, x < 2 → varN V st.L st.n x = V := fun x hx => by unfold varN; rw [if_neg (by omega)]
  by_cases hv : v < k
  · have hf : fitN V st.L st.n v 0 1 = true := by
      rw [fitN_iff, low 0 (by omega), low 1 (by omega)]
      omega
    obtain ⟨_, _, _, _, h⟩ := make_ok (B := B) ok.good hf
    have hs2 : (resN V B st.L st.n v 0 1).out false = false := by
      have hs1 : (resN V B st.L st.n v 0 1).out st.s = false := hs
      revert hs1
      cases resN V B st.L st.n v 0 1 <;> simp [Res.out]
    show ev ((resN V B st.L st.n v 0 1).nodes st.L st.n (v, 0, 1)) β ((resN V B st.L st.n v 0 1).num st.n 0) = _
    rw [(h hs2).2 β, ev0, ev1, decide_eq_true hv, Int.toNat_natCast]
    cases β v <;> rfl
  · have hf : fitN V st.L st.n v 0 1 = false := by
      cases e : fitN V st.L st.n v 0 1 with
      | false => rfl
      | true => rw [fitN_iff] at e; omega
    have hr : resN V B st.L st.n v 0 1 = .bad := by unfold resN; rw [if_neg (by rw [hf]; decide)]
    show ev ((resN V B st.L st.n v 0 1).nodes st.L st.n (v, 0, 1)) β ((resN V B st.L st.n v 0 1).num st.n 0) = _
    rw [hr, decide_eq_false hv]
    exact ev0 _ _
end
end Go.Proofs.Ytloidoekmicloaa
/-
  A maker of diagrams of the call's own; a state ahead of which all is well.
-/
set_option linter.unusedVariables false
set_option linter.unusedSimpArgs false
set_option linter.unnecessarySimpa false
namespace Go.Proofs.Ytloidoekmicloaa
open Go.ChangeShapes Go.WideShapes Go.ChangeAt Go.RowKit Go.Deep NodePlain
/-- A maker, of the call's own. -/
def LM (W : World) (db : Nat) (V B : Int) (st : St) (c : Int) (w : World) : Prop := ∃ Fp, Bd w db V B st c Fp ∧ Below W.heap.size W w ∧ ∀ x, Fp x → W.heap.size ≤ x
theorem LM.next {W w1 w2 : World} {db : Nat} {V B : Int} {st : St} {c : Int} {Fp Fp' : Nat → Prop} (hb : Below W.heap.size W w1) (hf : ∀ x, Fp x → W.heap.size ≤ x) (h : Bd w2 db V B st c Fp') (m : Mv w1 w2 Fp Fp') : LM W db V B st c w2 :=
  ⟨Fp', h, hb.trans (m.keeps.below hb.size (fun k hk hx => by have := hf k hx; omega)), fun x hx => (m.fp x hx).elim (hf x) (fun h => Nat.le_trans hb.size h)⟩
/-- A state ahead of which all is well. -/
structure Fine (V B : Int) (kc : Nat) (st : St) : Prop where
  wf : Wf V st kc
  bnd : st.n ≤ B ∧ (st.s = true → B ≤ st.n)
/-- What a variable's diagram comes to. -/
theorem lit_fine {V B : Int} {kc : Nat} {st : St} (h : Fine V B kc st) {k v : Nat} (hk : V = (k : Int)) (hv : v < k) (room : ((st.n + 1 : Nat) : Int) < B) {r : Int × St} (hr : opG st (makeM V B st v 0 1) = r) :
    Fine V B (kc + 1) r.2 ∧ isN r.2.n r.1 = true ∧ r.2.n ≤ st.n + 1 ∧ Ext st.L st.n r.2.L r.2.n ∧ ∀ β, ev r.2.L β r.1 = β v := by
  have hns : st.s = false := by
    cases e : st.s with
    | false => rfl
    | true => have := h.bnd.2 e; omega
  rw [opG_no hns] at hr
  subst hr
  obtain ⟨m1, m2, m3⟩ := make_wf (B := B) h.wf ((v : Nat) : Int)
  have hb := makeM_bnd (V := V) (B := B) st v 0 1 h.bnd
  have hn := makeM_few (V := V) (B := B) st v 0 1
  have hs : (makeM V B st v 0 1).2.s = false := by
    cases e : (makeM V B st v 0 1).2.s with
    | false => rfl
    | true => have := hb.2 e; omega
  refine ⟨⟨m1, hb⟩, m3, hn, m2, fun β => ?_⟩
  rw [lit_ev h.wf.ok hk hs β, decide_eq_true hv, Bool.true_and]
/-- What an if-then-else comes to. -/
theorem ite_fine {V B : Int} {kc : Nat} {st : St} (hV0 : 0 ≤ V) (hV : V ≤ 8) (h : Fine V B kc st) {f g k : Int} (hf : isN st.n f = true) (hg : isN st.n g = true) (hk : isN st.n k = true) (room : ((st.n + 2 ^ V.toNat : Nat) : Int) < B) {r : Int × St} (hr : iteT V B st f g k = r) :
    Fine V B (kc + 1) r.2 ∧ isN r.2.n r.1 = true ∧ r.2.n ≤ st.n + 2 ^ V.toNat ∧ Ext st.L st.n r.2.L r.2.n ∧ r.2.s = false ∧ ∀ β, ev r.2.L β r.1 = if ev st.L β f then ev st.L β g else ev st.L β k := by
  subst hr
  have p := iteT_ok (B := B) hV0 h.wf.ok hf hg hk
  have wi := iteT_wf (B := B) hV0 hV h.wf hf hg hk
  have hb : (iteT V B st f g k).2.n ≤ B ∧ ((iteT V B st f g k).2.s = true → B ≤ (iteT V B st f g k).2.n) := iteM_bnd (V := V) (B := B) V.toNat st f g k h.bnd
  have hp : 1 ≤ 2 ^ V.toNat := Nat.one_le_two_pow
  have few := p.few
  have hn : (iteT V B st f g k).2.n ≤ st.n + 2 ^ V.toNat := by omega
  have hs : (iteT V B st f g k).2.s = false := by
    cases e : (iteT V B st f g k).2.s with
    | false => rfl
    | true => have := hb.2 e; omega
  exact ⟨⟨wi, hb⟩, p.isr, hn, p.ext, hs, iteT_ev hV0 h.wf.ok hf hg hk hs⟩
end Go.Proofs.Ytloidoekmicloaa
/-
  A number that is a diagram of what is told.
-/
set_option linter.unusedVariables false
set_option linter.unusedSimpArgs false
set_option linter.unnecessarySimpa false
namespace Go.Proofs.Ytloidoekmicloaa
open Go.ChangeShapes Go.WideShapes Go.ChangeAt Go.RowKit Go.Deep NodePlain
/-- A number is a diagram that is true just where S says. -/
structure Num (st : St) (x : Int) (S : (Nat → Bool) → Bool) : Prop where
  is : isN st.n x = true
  ev : ∀ β, ev st.L β x = S β
theorem Num.ext {V : Int} {st st' : St} {x : Int} {S : (Nat → Bool) → Bool} (h : Num st x S) (e : Ext st.L st.n st'.L st'.n) (g : NodePlain.Good V st.L st.n) : Num st' x S :=
  ⟨e.is h.is, fun β => by rw [e.ev g β (isN_iff.1 h.is).2]; exact h.ev β⟩
theorem Num.eq {k : Nat} {st : St} {x y : Int} {S T : (Nat → Bool) → Bool} (h : Num st x S) (h2 : Num st y T) (g : NodePlain.Good (k : Int) st.L st.n) (he : ∀ β, S β = T β) : x = y :=
  once_bits g k rfl h.is h2.is (fun q _ => by rw [h.ev, h2.ev]; exact he _)
end Go.Proofs.Ytloidoekmicloaa
