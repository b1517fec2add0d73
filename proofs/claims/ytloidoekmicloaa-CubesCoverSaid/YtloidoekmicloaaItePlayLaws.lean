/-
  Diagrams made of one another in any way: how many nodes, and what a lesser budget changes. No program in sight.
-/
import Derived.Test.YtloidoekmicloaaItePlayWalk
import Derived.Test.YtloidoekmicloaaMF
set_option linter.unusedVariables false
set_option linter.unusedSimpArgs false
set_option linter.unnecessarySimpa false
namespace Go.Proofs.Ytloidoekmicloaa
open Go.ChangeShapes Go.WideShapes Go.ChangeAt Go.RowKit Go.Deep NodePlain
section
variable {V B B' : Int}
/-- What holds of each if-then-else and of each Make holds of a diagram more. -/
theorem stepK_rel {R : St → St → Prop} (r : ∀ st, R st st) (tr : ∀ a b c, R a b → R b c → R a c) (hi : ∀ st f g h, R st (iteT V B st f g h).2) (hm : ∀ st v lo hi, R st (makeM V B st v lo hi).2) (oa : Nat) (x y t : Int) (st : St) (c : Nat) : R st (stepK V B oa x y t st c).2 := by
  have og : ∀ k : Int × St, R st k.2 → R st (opG st k).2 := fun k hk => by
    unfold opG
    split
    · exact r st
    · exact hk
  unfold stepK
  split
  · exact og _ (hm _ _ _ _)
  · exact og _ (hi _ _ _ _)
  · exact og _ (hi _ _ _ _)
  · exact og _ (tr _ _ _ (tr _ _ _ (hi _ _ _ _) (hi _ _ _ _)) (hi _ _ _ _))
  · exact og _ (tr _ _ _ (tr _ _ _ (hi _ _ _ _) (hi _ _ _ _)) (hi _ _ _ _))
  · exact og _ (tr _ _ _ (hi _ _ _ _) (hi _ _ _ _))
  · exact og _ (hi _ _ _ _)
  · exact og _ (r st)
theorem stepK_up (oa : Nat) (x y t : Int) (st : St) (c : Nat) : Up st (stepK V B oa x y t st c).2 :=
  stepK_rel (R := Up) Up.refl (fun _ _ _ h k => h.trans k) (fun st f g h => iteM_up V B _ st f g h) (fun st v lo hi => makeM_up V B st v lo hi) oa x y t st c
theorem stepK_bnd (oa : Nat) (x y t : Int) (st : St) (c : Nat) : Bnd B st (stepK V B oa x y t st c).2 :=
  stepK_rel (R := Bnd B) Bnd.refl (fun _ _ _ h k => h.trans k) (fun st f g h => iteM_bnd _ st f g h) (fun st v lo hi => makeM_bnd st v lo hi) oa x y t st c
theorem opG_few {st : St} {k : Int × St} {m : Nat} (h : k.2.n ≤ st.n + m) : (opG st k).2.n ≤ st.n + m := by
  unfold opG
  split
  · exact Nat.le_add_right _ _
  · exact h
theorem stepK_few (hV0 : 0 ≤ V) {st : St} (ok : Ok V st) (oa : Nat) {x y t : Int} (hx : isN st.n x = true) (hy : isN st.n y = true) (ht : isN st.n t = true) (c : Nat) : (stepK V B oa x y t st c).2.n ≤ st.n + callsK c * 2 ^ (V.toNat + 1) := by
  have e2 : 2 ^ (V.toNat + 1) = 2 ^ V.toNat + 2 ^ V.toNat := by rw [Nat.pow_succ]; omega
  have e1 : 1 ≤ 2 ^ V.toNat := Nat.one_le_two_pow
  have one : ∀ f g h, isN st.n f = true → isN st.n g = true → isN st.n h = true → (iteT V B st f g h).2.n ≤ st.n + 1 * 2 ^ (V.toNat + 1) := fun f g h a b c => by
    have := (iteT_ok (B := B) hV0 ok a b c).few
    omega
  unfold stepK
  split
  · refine opG_few (Nat.le_trans (makeM_few _ _ _ _) ?_)
    show st.n + 1 ≤ st.n + 1 * _
    omega
  · exact opG_few (one _ _ _ hx hy ht)
  · exact opG_few (one _ _ _ hx (is0 _) (is1 _))
  · have p1 := iteT_ok (B := B) hV0 ok hx (is1 _) (is0 _)
    have p2 := iteT_ok (B := B) hV0 p1.ok (p1.ext.is hy) p1.isr (is0 _)
    have p3 := iteT_ok (B := B) hV0 p2.ok (p2.ext.is (p1.ext.is ht)) p2.isr (is0 _)
    refine opG_few ?_
    have q1 := p1.few
    have q2 := p2.few
    have q3 := p3.few
    refine Nat.le_trans q3 ?_
    show _ ≤ st.n + 3 * _
    omega
  · have p1 := iteT_ok (B := B) hV0 ok hx (is1 _) (is0 _)
    have p2 := iteT_ok (B := B) hV0 p1.ok (p1.ext.is hy) (is1 _) p1.isr
    have p3 := iteT_ok (B := B) hV0 p2.ok (p2.ext.is (p1.ext.is ht)) (is1 _) p2.isr
    refine opG_few ?_
    have q1 := p1.few
    have q2 := p2.few
    have q3 := p3.few
    refine Nat.le_trans q3 ?_
    show _ ≤ st.n + 3 * _
    omega
  · have p := iteT_ok (B := B) hV0 ok hy (is0 _) (is1 _)
    have p2 := iteT_ok (B := B) hV0 p.ok (p.ext.is hx) p.isr (p.ext.is hy)
    refine opG_few ?_
    have q1 := p.few
    have q2 := p2.few
    refine Nat.le_trans q2 ?_
    show _ ≤ st.n + 1 * _
    omega
  · exact opG_few (one _ _ _ hx (is0 _) hy)
  · exact opG_few (Nat.le_add_right _ _)
theorem sim_next {a a' : Int × St} (h : Sim B a a') {f f' : Int × St → Int × St} (hs : a.2.s = false → Sim B (f a) (f' a)) (u : ∀ b, Up b.2 (f b).2) (u' : ∀ b, Up b.2 (f' b).2) : Sim B (f a) (f' a') := by
  cases e : a.2.s with
  | false => rw [h.1 e]; exact hs e
  | true =>
    refine ⟨fun e2 => ?_, fun _ => Sim.up (a := a) (h.2 e) (u' a')⟩
    rw [(u a).s e] at e2
    cases e2
theorem stepK_sim (hB : B ≤ B') (oa : Nat) (x y t : Int) {st : St} (hs : st.s = false) (c : Nat) : Sim B (stepK V B oa x y t st c) (stepK V B' oa x y t st c) := by
  have it : ∀ (st : St) f g h, st.s = false → Sim B (iteT V B st f g h) (iteT V B' st f g h) := fun st f g h e => iteM_sim hB _ st f g h e
  have up : ∀ (st : St) f g h, Up st (iteT V B st f g h).2 := fun st f g h => iteM_up V B _ st f g h
  have up' : ∀ (st : St) f g h, Up st (iteT V B' st f g h).2 := fun st f g h => iteM_up V B' _ st f g h
  have fa : ∀ (a a' : Int × St) f, Sim B a a' → Sim B (iteT V B a.2 f a.1 0) (iteT V B' a'.2 f a'.1 0) := fun a a' f h =>
    sim_next h (f := fun a => iteT V B a.2 f a.1 0) (f' := fun a => iteT V B' a.2 f a.1 0) (fun e => it _ _ _ _ e) (fun b => up _ _ _ _) (fun b => up' _ _ _ _)
  have fo : ∀ (a a' : Int × St) f, Sim B a a' → Sim B (iteT V B a.2 f 1 a.1) (iteT V B' a'.2 f 1 a'.1) := fun a a' f h =>
    sim_next h (f := fun a => iteT V B a.2 f 1 a.1) (f' := fun a => iteT V B' a.2 f 1 a.1) (fun e => it _ _ _ _ e) (fun b => up _ _ _ _) (fun b => up' _ _ _ _)
  unfold stepK
  split <;> rw [opG_no hs, opG_no hs]
  · exact makeM_sim hB hs _ _ _
  · exact it _ _ _ _ hs
  · exact it _ _ _ _ hs
  · exact fa _ _ _ (fa _ _ _ (it _ _ _ _ hs))
  · exact fo _ _ _ (fo _ _ _ (it _ _ _ _ hs))
  · exact sim_next (it _ _ _ _ hs) (f := fun a => iteT V B a.2 x a.1 y) (f' := fun a => iteT V B' a.2 x a.1 y) (fun e => it _ _ _ _ e) (fun b => up _ _ _ _) (fun b => up' _ _ _ _)
  · exact it _ _ _ _ hs
  · exact Sim.refl B hs
/-- The two budgets' plays. -/
structure PlSim (B : Int) (s s' : PlS) : Prop where
  no : s.st.s = false → s' = s
  yes : s.st.s = true → s'.st.s = true ∨ B < s'.st.n
theorem play_sim (hB : B ≤ B') (k : Nat) {s s' : PlS} (h : PlSim B s s') (o : OpR) : PlSim B (playStep V B k s o) (playStep V B' k s' o) := by
  cases e : s.st.s with
  | false =>
    rw [h.no e]
    have q := stepK_sim (V := V) hB o.a (s.l.getD (o.a % s.l.length) 0) (s.l.getD (o.b % s.l.length) 0) (s.l.getD (o.c % s.l.length) 0) e (o.kind % 8)
    refine ⟨fun e2 => ?_, fun e2 => q.2 e2⟩
    have q2 := q.1 e2
    unfold playStep
    simp only [q2]
  | true =>
    refine ⟨fun e2 => ?_, fun _ => (h.yes e).imp (stepK_up o.a _ _ _ s'.st (o.kind % 8)).s (fun g => ?_)⟩
    · have : (playStep V B k s o).st.s = true := (stepK_up (V := V) (B := B) o.a _ _ _ s.st (o.kind % 8)).s e
      rw [this] at e2; cases e2
    · have : s'.st.n ≤ (playStep V B' k s' o).st.n := (stepK_up (V := V) (B := B') o.a _ _ _ s'.st (o.kind % 8)).n
      omega
theorem playM_sim (hB : B ≤ B') (k : Nat) (os : List OpR) : PlSim B (playM V B k os) (playM V B' k os) := by
  have go : ∀ (l : List OpR) (s s' : PlS), PlSim B s s' → PlSim B (l.foldl (playStep V B k) s) (l.foldl (playStep V B' k) s') := fun l => by
    induction l with
    | nil => exact fun s s' h => h
    | cons o l ih => exact fun s s' h => ih _ _ (play_sim hB k h o)
  exact go _ _ _ ⟨fun _ => rfl, fun e => by cases e⟩
theorem playM_bnd (hB : 0 ≤ B) (k : Nat) (os : List OpR) : (playM V B k os).st.n ≤ B ∧ ((playM V B k os).st.s = true → B ≤ (playM V B k os).st.n) := by
  have go : ∀ (l : List OpR) (s : PlS), (s.st.n ≤ B ∧ (s.st.s = true → B ≤ s.st.n)) → ((l.foldl (playStep V B k) s).st.n ≤ B ∧ ((l.foldl (playStep V B k) s).st.s = true → B ≤ (l.foldl (playStep V B k) s).st.n)) := fun l => by
    induction l with
    | nil => exact fun s h => h
    | cons o l ih => exact fun s h => ih _ (stepK_bnd (V := V) o.a _ _ _ s.st (o.kind % 8) h)
  exact go _ _ ⟨hB, fun e => by cases e⟩
theorem play_few (hV0 : 0 ≤ V) {k j : Nat} {s : PlS} (h : PInv V j s) (hf : s.st.n ≤ s.calls * 2 ^ (V.toNat + 1)) (o : OpR) : (playStep V B k s o).st.n ≤ (playStep V B k s o).calls * 2 ^ (V.toNat + 1) := by
  have hget : ∀ i, i < s.l.length → isN s.st.n (s.l.getD i 0) = true := fun i hi => by
    rw [List.getD_eq_getElem?_getD, List.getElem?_eq_getElem hi]
    exact h.is _ (List.getElem_mem hi)
  have hq : 0 < s.l.length := by rw [h.len]; omega
  have g := stepK_few (B := B) hV0 h.wf.ok o.a (hget (o.a % s.l.length) (Nat.mod_lt _ hq)) (hget (o.b % s.l.length) (Nat.mod_lt _ hq)) (hget (o.c % s.l.length) (Nat.mod_lt _ hq)) (o.kind % 8)
  refine Nat.le_trans g ?_
  show _ ≤ (s.calls + callsK (o.kind % 8)) * _
  rw [Nat.add_mul]
  omega
theorem playM_inv (hV0 : 0 ≤ V) (hV : V ≤ 8) (k : Nat) (os : List OpR) : ∃ j, j ≤ 30 ∧ j = (os.take 30).length ∧ PInv V j (playM V B k os) ∧ (playM V B k os).st.n ≤ (playM V B k os).calls * 2 ^ (V.toNat + 1) := by
  have go : ∀ (l : List OpR) (j : Nat) (s : PlS), PInv V j s → s.st.n ≤ s.calls * 2 ^ (V.toNat + 1) → PInv V (j + l.length) (l.foldl (playStep V B k) s) ∧ (l.foldl (playStep V B k) s).st.n ≤ (l.foldl (playStep V B k) s).calls * 2 ^ (V.toNat + 1) := fun l => by
    induction l with
    | nil => exact fun j s h hf => ⟨h, hf⟩
    | cons o l ih =>
      intro j s h hf
      have := ih (j + 1) _ (pinv_step (B := B) hV0 hV (k := k) h o) (play_few (B := B) hV0 (k := k) h hf o)
      rw [List.length_cons, Nat.add_comm l.length 1, ← Nat.add_assoc]
      exact this
  obtain ⟨a, b⟩ := go (os.take 30) 0 play0 (pinv0 V) (Nat.zero_le _)
  rw [Nat.zero_add] at a
  exact ⟨_, by rw [List.length_take]; omega, rfl, a, b⟩
end
end Go.Proofs.Ytloidoekmicloaa
