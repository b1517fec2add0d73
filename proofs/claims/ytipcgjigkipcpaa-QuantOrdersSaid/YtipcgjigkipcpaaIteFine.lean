/-
  A maker of diagrams of the call's own; a state ahead of which all is well.
-/
import Derived.Test.YtipcgjigkipcpaaIteEv
set_option linter.unusedVariables false
set_option linter.unusedSimpArgs false
set_option linter.unnecessarySimpa false
namespace Go.Proofs.Ytipcgjigkipcpaa
open Go.ChangeShapes Go.WideShapes Go.ChangeAt Go.RowKit Go.Deep NodePlain
/-- A maker, of the call's own. -/
def LM (W : World) (db : Nat) (V B : Int) (st : St) (c : Int) (w : World) : Prop := ∃ Fp, Bd w db V B st c Fp ∧ Below W.heap.size W w ∧ ∀ x, Fp x → W.heap.size ≤ x
theorem LM.next {W w1 w2 : World} {db : Nat} {V B : Int} {st : St} {c : Int} {Fp Fp' : Nat → Prop} (hb : Below W.heap.size W w1) (hf : ∀ x, Fp x → W.heap.size ≤ x) (h : Bd w2 db V B st c Fp') (m : Mv w1 w2 Fp Fp') : LM W db V B st c w2 :=
  ⟨Fp', h, hb.trans (m.keeps.below hb.size (fun k hk hx => by have := hf k hx; omega)), fun x hx => (m.fp x hx).elim (hf x) (fun h => Nat.le_trans hb.size h)⟩
/-- A state ahead of which all is well. -/
structure Fine (V B : Int) (kc : Nat) (st : St) : Prop where
  wf : Wf V st kc
  bnd : st.n ≤ B ∧ (st.s = true → B ≤ st.n)
/-- What a variable's diagram comes to. -/
theorem lit_fine {V B : Int} {kc : Nat} {st : St} (h : Fine V B kc st) {k v : Nat} (hk : V = (k : Int)) (hv : v < k) (room : ((st.n + 1 : Nat) : Int) < B) {r : Int × St} (hr : opG st (makeM V B st v 0 1) = r) :
    Fine V B (kc + 1) r.2 ∧ isN r.2.n r.1 = true ∧ r.2.n ≤ st.n + 1 ∧ Ext st.L st.n r.2.L r.2.n ∧ ∀ β, ev r.2.L β r.1 = β v := by
  have hns : st.s = false := by
    cases e : st.s with
    | false => rfl
    | true => have := h.bnd.2 e; omega
  rw [opG_no hns] at hr
  subst hr
  obtain ⟨m1, m2, m3⟩ := make_wf (B := B) h.wf ((v : Nat) : Int)
  have hb := makeM_bnd (V := V) (B := B) st v 0 1 h.bnd
  have hn := makeM_few (V := V) (B := B) st v 0 1
  have hs : (makeM V B st v 0 1).2.s = false := by
    cases e : (makeM V B st v 0 1).2.s with
    | false => rfl
    | true => have := hb.2 e; omega
  refine ⟨⟨m1, hb⟩, m3, hn, m2, fun β => ?_⟩
  rw [lit_ev h.wf.ok hk hs β, decide_eq_true hv, Bool.true_and]
/-- What an if-then-else comes to. -/
theorem ite_fine {V B : Int} {kc : Nat} {st : St} (hV0 : 0 ≤ V) (hV : V ≤ 8) (h : Fine V B kc st) {f g k : Int} (hf : isN st.n f = true) (hg : isN st.n g = true) (hk : isN st.n k = true) (room : ((st.n + 2 ^ V.toNat : Nat) : Int) < B) {r : Int × St} (hr : iteT V B st f g k = r) :
    Fine V B (kc + 1) r.2 ∧ isN r.2.n r.1 = true ∧ r.2.n ≤ st.n + 2 ^ V.toNat ∧ Ext st.L st.n r.2.L r.2.n ∧ r.2.s = false ∧ ∀ β, ev r.2.L β r.1 = if ev st.L β f then ev st.L β g else ev st.L β k := by
  subst hr
  have p := iteT_ok (B := B) hV0 h.wf.ok hf hg hk
  have wi := iteT_wf (B := B) hV0 hV h.wf hf hg hk
  have hb : (iteT V B st f g k).2.n ≤ B ∧ ((iteT V B st f g k).2.s = true → B ≤ (iteT V B st f g k).2.n) := iteM_bnd (V := V) (B := B) V.toNat st f g k h.bnd
  have hp : 1 ≤ 2 ^ V.toNat := Nat.one_le_two_pow
  have few := p.few
  have hn : (iteT V B st f g k).2.n ≤ st.n + 2 ^ V.toNat := by omega
  have hs : (iteT V B st f g k).2.s = false := by
    cases e : (iteT V B st f g k).2.s with
    | false => rfl
    | true => have := hb.2 e; omega
  exact ⟨⟨wi, hb⟩, p.isr, hn, p.ext, hs, iteT_ev hV0 h.wf.ok hf hg hk hs⟩
end Go.Proofs.Ytipcgjigkipcpaa
