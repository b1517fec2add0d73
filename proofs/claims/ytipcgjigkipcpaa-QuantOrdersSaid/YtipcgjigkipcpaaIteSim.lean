/-
  With a lesser budget it is the same, till it is spent. No program in sight.
-/
import Derived.Test.YtipcgjigkipcpaaIteOps
set_option linter.unusedVariables false
set_option linter.unusedSimpArgs false
set_option linter.unnecessarySimpa false
namespace Go.Proofs.Ytipcgjigkipcpaa
open Go.ChangeShapes Go.WideShapes Go.ChangeAt Go.RowKit Go.Deep NodePlain
section
variable {V B B' : Int}
/-- Behind a state there are no fewer nodes, and what was spent is spent. -/
structure Up (st st' : St) : Prop where
  n : st.n ≤ st'.n
  s : st.s = true → st'.s = true
theorem Up.refl (st : St) : Up st st := ⟨Nat.le_refl _, fun h => h⟩
theorem Up.trans {a b c : St} (h : Up a b) (k : Up b c) : Up a c := ⟨Nat.le_trans h.n k.n, fun e => k.s (h.s e)⟩
theorem makeM_up (V B : Int) (st : St) (v lo hi : Int) : Up st (makeM V B st v lo hi).2 := by
  refine ⟨?_, fun h => ?_⟩
  · show st.n ≤ (resN V B st.L st.n v lo hi).len st.n
    cases resN V B st.L st.n v lo hi <;> simp [Res.len]
  · show (resN V B st.L st.n v lo hi).out st.s = true
    cases resN V B st.L st.n v lo hi <;> simp [Res.out, h]
theorem head_up {st : St} {f g h : Int} {k : Unit → Int × St} (hk : Up st (k ()).2) : Up st (iteHead st f g h k).2 := by
  unfold iteHead
  split
  · exact Up.refl _
  split
  · exact Up.refl _
  split
  · exact Up.refl _
  split
  · exact ⟨Nat.le_refl _, fun h => h⟩
  · exact hk
theorem iteC_up (V B f g h v lo : Int) (b : Int × St) : Up b.2 (iteC V B f g h v lo b).2 := by
  unfold iteC
  split
  · exact Up.refl _
  · have m := makeM_up V B b.2 v lo b.1
    show Up b.2 (if (makeM V B b.2 v lo b.1).2.s = true then (makeM V B b.2 v lo b.1).2 else { (makeM V B b.2 v lo b.1).2 with F := _ })
    split
    · exact m
    · exact ⟨m.n, m.s⟩
theorem iteM_up (V B : Int) : ∀ (d : Nat) (st : St) (f g h : Int), Up st (iteM V B d st f g h).2
  | 0, st, f, g, h => head_up (Up.refl _)
  | d + 1, st, f, g, h => by
    refine head_up ?_
    show Up st (iteStep V B (iteM V B d) st f g h).2
    unfold iteStep iteB
    have h1 := iteM_up V B d st (halfN st.L st.n f (mn V st.L st.n f g h) false) (halfN st.L st.n g (mn V st.L st.n f g h) false) (halfN st.L st.n h (mn V st.L st.n f g h) false)
    split
    · exact h1
    · exact h1.trans ((iteM_up V B d _ _ _ _).trans (iteC_up V B f g h _ _ _))
theorem iteB_up (V B : Int) (d : Nat) (f g h v : Int) (a : Int × St) : Up a.2 (iteB V B (iteM V B d) f g h v a).2 := by
  unfold iteB
  split
  · exact Up.refl _
  · exact (iteM_up V B d _ _ _ _).trans (iteC_up V B f g h _ _ _)
/-- The lesser budget's run and the greater one's. -/
def Sim (B : Int) (a a' : Int × St) : Prop := (a.2.s = false → a' = a) ∧ (a.2.s = true → a'.2.s = true ∨ B < a'.2.n)
theorem Sim.refl (B : Int) {a : Int × St} (h : a.2.s = false) : Sim B a a := ⟨fun _ => rfl, fun e => by rw [h] at e; cases e⟩
theorem makeM_sim (hB : B ≤ B') {st : St} (hs : st.s = false) (v lo hi : Int) : Sim B (makeM V B st v lo hi) (makeM V B' st v lo hi) := by
  have key : resN V B' st.L st.n v lo hi = resN V B st.L st.n v lo hi ∨ (resN V B st.L st.n v lo hi = .spent ∧ B ≤ st.n ∧ resN V B' st.L st.n v lo hi = .new) := by
    unfold resN
    split
    · split
      · exact .inl rfl
      · split
        · exact .inl rfl
        · by_cases h1 : B ≤ st.n
          · by_cases h2 : B' ≤ st.n
            · rw [if_pos h1, if_pos h2]; exact .inl rfl
            · rw [if_pos h1, if_neg h2]; exact .inr ⟨rfl, h1, rfl⟩
          · rw [if_neg h1, if_neg (by omega)]; exact .inl rfl
    · exact .inl rfl
  rcases key with e | ⟨e1, h1, e2⟩
  · have e3 : makeM V B' st v lo hi = makeM V B st v lo hi := by unfold makeM; rw [e]
    rw [e3]
    exact ⟨fun _ => rfl, fun h => .inl h⟩
  · refine ⟨fun h => ?_, fun _ => .inr ?_⟩
    · have : (resN V B st.L st.n v lo hi).out st.s = false := h
      rw [e1] at this; cases this
    · show B < (((resN V B' st.L st.n v lo hi).len st.n : Nat) : Int)
      rw [e2]
      show B < ((st.n + 1 : Nat) : Int)
      omega
theorem head_sim {st : St} (hs : st.s = false) {f g h : Int} {k k' : Unit → Int × St} (hk : Sim B (k ()) (k' ())) : Sim B (iteHead st f g h k) (iteHead st f g h k') := by
  unfold iteHead
  split
  · exact Sim.refl B hs
  split
  · exact Sim.refl B hs
  split
  · exact Sim.refl B hs
  split
  · exact Sim.refl B hs
  · exact hk
theorem Sim.up {a a' b' : Int × St} (h : a'.2.s = true ∨ B < a'.2.n) (u : Up a'.2 b'.2) : b'.2.s = true ∨ B < b'.2.n := h.imp u.s (fun h => by have := u.n; omega)
/-- An answer kept, where not all is spent. -/
def kept (f g h : Int) (m : Int × St) : Int × St := (m.1, if m.2.s = true then m.2 else { m.2 with F := keep 4096 m.2.F 0 f g h m.1 })
theorem iteC_no (V B : Int) (f g h v lo : Int) {b : Int × St} (hb : b.2.s = false) : iteC V B f g h v lo b = kept f g h (makeM V B b.2 v lo b.1) := by
  unfold iteC
  rw [hb]
  rfl
theorem kept_up (f g h : Int) (m : Int × St) : Up m.2 (kept f g h m).2 := by
  unfold kept
  show Up m.2 (if m.2.s = true then m.2 else { m.2 with F := _ })
  split
  · exact Up.refl _
  · exact ⟨Nat.le_refl _, fun h => h⟩
theorem kept_s (f g h : Int) (m : Int × St) : (kept f g h m).2.s = m.2.s := by
  unfold kept
  show (if m.2.s = true then m.2 else { m.2 with F := _ }).s = m.2.s
  split <;> rfl
theorem iteC_sim (hB : B ≤ B') (f g h v lo : Int) {b : Int × St} (hb : b.2.s = false) : Sim B (iteC V B f g h v lo b) (iteC V B' f g h v lo b) := by
  rw [iteC_no V B f g h v lo hb, iteC_no V B' f g h v lo hb]
  obtain ⟨m1, m2⟩ := makeM_sim (V := V) hB hb v lo b.1
  refine ⟨fun e => ?_, fun e => ?_⟩
  · rw [kept_s] at e
    rw [m1 e]
  · rw [kept_s] at e
    exact Sim.up (a := makeM V B b.2 v lo b.1) (m2 e) (kept_up f g h _)
theorem iteM_sim (hB : B ≤ B') : ∀ (d : Nat) (st : St) (f g h : Int), st.s = false → Sim B (iteM V B d st f g h) (iteM V B' d st f g h)
  | 0, st, f, g, h, hs => head_sim hs (Sim.refl B hs)
  | d + 1, st, f, g, h, hs => by
    refine head_sim hs ?_
    show Sim B (iteStep V B (iteM V B d) st f g h) (iteStep V B' (iteM V B' d) st f g h)
    unfold iteStep
    generalize mn V st.L st.n f g h = v
    obtain ⟨a1, a2⟩ := iteM_sim hB d st (halfN st.L st.n f v false) (halfN st.L st.n g v false) (halfN st.L st.n h v false) hs
    generalize iteM V B d st (halfN st.L st.n f v false) (halfN st.L st.n g v false) (halfN st.L st.n h v false) = a at a1 a2 ⊢
    generalize iteM V B' d st (halfN st.L st.n f v false) (halfN st.L st.n g v false) (halfN st.L st.n h v false) = a' at a1 a2 ⊢
    cases ha : a.2.s with
    | true =>
      have e : iteB V B (iteM V B d) f g h v a = (0, a.2) := by unfold iteB; rw [if_pos ha]
      rw [e]
      exact ⟨(fun e => by have h2 : a.2.s = false := e; rw [ha] at h2; cases h2), fun _ => Sim.up (a := a) (a2 ha) (iteB_up V B' d f g h v a')⟩
    | false =>
      rw [a1 ha]
      unfold iteB
      rw [if_neg (by rw [ha]; decide), if_neg (by rw [ha]; decide)]
      obtain ⟨b1, b2⟩ := iteM_sim hB d a.2 (halfN a.2.L a.2.n f v true) (halfN a.2.L a.2.n g v true) (halfN a.2.L a.2.n h v true) ha
      generalize iteM V B d a.2 (halfN a.2.L a.2.n f v true) (halfN a.2.L a.2.n g v true) (halfN a.2.L a.2.n h v true) = b at b1 b2 ⊢
      generalize iteM V B' d a.2 (halfN a.2.L a.2.n f v true) (halfN a.2.L a.2.n g v true) (halfN a.2.L a.2.n h v true) = b' at b1 b2 ⊢
      cases hb : b.2.s with
      | true =>
        have e : iteC V B f g h v a.1 b = (0, b.2) := by unfold iteC; rw [if_pos hb]
        rw [e]
        exact ⟨(fun e => by have h2 : b.2.s = false := e; rw [hb] at h2; cases h2), fun _ => Sim.up (a := b) (b2 hb) (iteC_up V B' f g h v a.1 b')⟩
      | false =>
        rw [b1 hb]
        exact iteC_sim hB f g h v a.1 hb
end
end Go.Proofs.Ytipcgjigkipcpaa
