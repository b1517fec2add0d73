/-
  If-then-else: where its answers are true, and how many nodes there are. No program in sight.
-/
import Derived.Test.YtipcgjigkipcpaaIteOps
import Derived.Test.YtipcgjigkipcpaaIteSim
set_option linter.unusedVariables false
set_option linter.unusedSimpArgs false
set_option linter.unnecessarySimpa false
namespace Go.Proofs.Ytipcgjigkipcpaa
open Go.ChangeShapes Go.WideShapes Go.ChangeAt Go.RowKit Go.Deep NodePlain
/-- Two diagrams that are true at the same bits are one. -/
theorem once_bits {V : Int} {L : Nat → Nd} {n : Nat} (g : NodePlain.Good V L n) (K : Nat) (hV : V = (K : Int)) {a b : Int} (ha : isN n a = true) (hb : isN n b = true) (h : ∀ j, j < 2 ^ K → ev L (Nat.testBit j) a = ev L (Nat.testBit j) b) : a = b := by
  rw [isN_iff] at ha hb
  exact canon g (n + 2) a b (by omega) (by omega) (by omega) (by omega) (by omega) (by omega) (fun β => by
    have e1 := ev_below g (b1 := β) (b2 := Nat.testBit (ofB β K)) (fun x hx => (ofB_test β K x (by omega)).symm) (n + 2) a (by omega) (by omega)
    have e2 := ev_below g (b1 := β) (b2 := Nat.testBit (ofB β K)) (fun x hx => (ofB_test β K x (by omega)).symm) (n + 2) b (by omega) (by omega)
    rw [e1, e2]
    exact h _ (ofB_lt β K))
section
variable {V B : Int}
/-- No more nodes than the budget; all is spent just where there are so many. -/
def Bnd (B : Int) (st st' : St) : Prop := (st.n ≤ B ∧ (st.s = true → B ≤ st.n)) → (st'.n ≤ B ∧ (st'.s = true → B ≤ st'.n))
theorem Bnd.refl (st : St) : Bnd B st st := fun h => h
theorem Bnd.trans {a b c : St} (h : Bnd B a b) (k : Bnd B b c) : Bnd B a c := fun e => k (h e)
theorem makeM_bnd (st : St) (v lo hi : Int) : Bnd B st (makeM V B st v lo hi).2 := by
  rintro ⟨h1, h2⟩
  show (((resN V B st.L st.n v lo hi).len st.n : Nat) : Int) ≤ B ∧ ((resN V B st.L st.n v lo hi).out st.s = true → B ≤ (((resN V B st.L st.n v lo hi).len st.n : Nat) : Int))
  unfold resN
  split
  · split
    · exact ⟨h1, h2⟩
    · split
      · exact ⟨h1, h2⟩
      · by_cases hb : B ≤ st.n
        · rw [if_pos hb]; exact ⟨h1, fun _ => hb⟩
        · rw [if_neg hb]
          refine ⟨?_, fun e => ?_⟩
          · show ((st.n + 1 : Nat) : Int) ≤ B; omega
          · have := h2 e; omega
  · exact ⟨h1, h2⟩
theorem head_bnd {st : St} {f g h : Int} {k : Unit → Int × St} (hk : Bnd B st (k ()).2) : Bnd B st (iteHead st f g h k).2 := by
  unfold iteHead
  split
  · exact Bnd.refl _
  split
  · exact Bnd.refl _
  split
  · exact Bnd.refl _
  split
  · exact fun h => h
  · exact hk
theorem iteC_bnd (f g h v lo : Int) (b : Int × St) : Bnd B b.2 (iteC V B f g h v lo b).2 := by
  unfold iteC
  split
  · exact Bnd.refl _
  · have m := makeM_bnd (V := V) (B := B) b.2 v lo b.1
    show Bnd B b.2 (if (makeM V B b.2 v lo b.1).2.s = true then (makeM V B b.2 v lo b.1).2 else { (makeM V B b.2 v lo b.1).2 with F := _ })
    split
    · exact m
    · exact fun h => m h
theorem iteM_bnd : ∀ (d : Nat) (st : St) (f g h : Int), Bnd B st (iteM V B d st f g h).2
  | 0, st, f, g, h => head_bnd (Bnd.refl _)
  | d + 1, st, f, g, h => by
    refine head_bnd ?_
    show Bnd B st (iteStep V B (iteM V B d) st f g h).2
    unfold iteStep iteB
    have h1 := iteM_bnd d st (halfN st.L st.n f (mn V st.L st.n f g h) false) (halfN st.L st.n g (mn V st.L st.n f g h) false) (halfN st.L st.n h (mn V st.L st.n f g h) false)
    split
    · exact h1
    · exact h1.trans ((iteM_bnd d _ _ _ _).trans (iteC_bnd f g h _ _ _))
theorem makeM_few (st : St) (v lo hi : Int) : (makeM V B st v lo hi).2.n ≤ st.n + 1 := by
  show (resN V B st.L st.n v lo hi).len st.n ≤ st.n + 1
  cases resN V B st.L st.n v lo hi <;> simp [Res.len]
theorem opG_no {st : St} (h : st.s = false) (k : Int × St) : opG st k = k := by unfold opG; rw [if_neg (by rw [h]; decide)]
end
section
variable {V B : Int} {st : St} {K : Nat}
theorem ev0 (L : Nat → Nd) (β : Nat → Bool) : ev L β 0 = false := by rw [ev_low _ _ _ (by omega)]; rfl
theorem ev1 (L : Nat → Nd) (β : Nat → Bool) : ev L β 1 = true := by rw [ev_low _ _ _ (by omega)]; rfl
theorem not_spent {a b : St} (u : Up a b) (h : b.s = false) : a.s = false := by
  cases e : a.s with
  | false => rfl
  | true => rw [u.s e] at h; cases h
theorem iteT_ev (hV0 : 0 ≤ V) (ok : Ok V st) {f g h : Int} (hf : isN st.n f = true) (hg : isN st.n g = true) (hh : isN st.n h = true) (hs : (iteT V B st f g h).2.s = false) (β : Nat → Bool) : ev (iteT V B st f g h).2.L β (iteT V B st f g h).1 = if ev st.L β f then ev st.L β g else ev st.L β h := by
  have p := iteT_ok (B := B) hV0 ok hf hg hh
  rw [isN_iff] at hf hg hh
  rw [(p.sem hs).ev β, p.ext.ev ok.good β hf.2, p.ext.ev ok.good β hg.2, p.ext.ev ok.good β hh.2]
theorem lit_ev (ok : Ok V st) {k v : Nat} (hk : V = (k : Int)) (hs : (makeM V B st v 0 1).2.s = false) (β : Nat → Bool) : ev (makeM V B st v 0 1).2.L β (makeM V B st v 0 1).1 = (decide (v < k) && β v) := by
  have low : ∀ x : Int, x < 2 → varN V st.L st.n x = V := fun x hx => by unfold varN; rw [if_neg (by omega)]
  by_cases hv : v < k
  · have hf : fitN V st.L st.n v 0 1 = true := by
      rw [fitN_iff, low 0 (by omega), low 1 (by omega)]
      omega
    obtain ⟨_, _, _, _, h⟩ := make_ok (B := B) ok.good hf
    have hs2 : (resN V B st.L st.n v 0 1).out false = false := by
      have hs1 : (resN V B st.L st.n v 0 1).out st.s = false := hs
      revert hs1
      cases resN V B st.L st.n v 0 1 <;> simp [Res.out]
    show ev ((resN V B st.L st.n v 0 1).nodes st.L st.n (v, 0, 1)) β ((resN V B st.L st.n v 0 1).num st.n 0) = _
    rw [(h hs2).2 β, ev0, ev1, decide_eq_true hv, Int.toNat_natCast]
    cases β v <;> rfl
  · have hf : fitN V st.L st.n v 0 1 = false := by
      cases e : fitN V st.L st.n v 0 1 with
      | false => rfl
      | true => rw [fitN_iff] at e; omega
    have hr : resN V B st.L st.n v 0 1 = .bad := by unfold resN; rw [if_neg (by rw [hf]; decide)]
    show ev ((resN V B st.L st.n v 0 1).nodes st.L st.n (v, 0, 1)) β ((resN V B st.L st.n v 0 1).num st.n 0) = _
    rw [hr, decide_eq_false hv]
    exact ev0 _ _
end
end Go.Proofs.Ytipcgjigkipcpaa
