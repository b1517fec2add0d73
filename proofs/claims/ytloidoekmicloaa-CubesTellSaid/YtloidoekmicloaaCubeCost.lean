/-
  How few nodes an if-then-else makes of diagrams of late variables alone.
-/
import Derived.Test.YtloidoekmicloaaMF
set_option linter.unusedVariables false
set_option linter.unusedSimpArgs false
set_option linter.unnecessarySimpa false
namespace Go.Proofs.Ytloidoekmicloaa
open Go.ChangeShapes Go.WideShapes Go.ChangeAt Go.RowKit Go.Deep NodePlain
theorem iteHead_congr {st : St} {f g h : Int} {k k' : Unit → Int × St} (e : f ≠ 0 → f ≠ 1 → k () = k' ()) : iteHead st f g h k = iteHead st f g h k' := by
  unfold iteHead
  by_cases c1 : f = 1 ∨ g = h
  · rw [if_pos c1, if_pos c1]
  · rw [if_neg c1, if_neg c1]
    by_cases c2 : f = 0
    · rw [if_pos c2, if_pos c2]
    · rw [if_neg c2, if_neg c2]
      by_cases c3 : g = 1 ∧ h = 0
      · rw [if_pos c3, if_pos c3]
      · rw [if_neg c3, if_neg c3]
        cases look 4096 st.F 0 f g h with
        | some x => rfl
        | none => exact e c2 (fun h1 => c1 (.inl h1))
variable {V B : Int}
theorem iteM_fuel (hV : 0 ≤ V) : ∀ (m d : Nat) (st : St) (f g h : Int), Ok V st → isN st.n f = true → isN st.n g = true → isN st.n h = true → V - mn V st.L st.n f g h ≤ m → m ≤ d → iteM V B d st f g h = iteM V B m st f g h
  | 0, d, st, f, g, h, ok, hf, hg, hh, hm, _ => by
    have ht := var_term ok.good hf (by unfold mn at hm; omega)
    cases d with
    | zero => rfl
    | succ d =>
      show iteHead st f g h _ = iteHead st f g h _
      refine iteHead_congr (fun h0 h1 => ?_)
      rcases ht with e | e
      · exact absurd e h0
      · exact absurd e h1
  | m + 1, 0, st, f, g, h, ok, hf, hg, hh, hm, hd => absurd hd (by omega)
  | m + 1, d + 1, st, f, g, h, ok, hf, hg, hh, hm, hd => by
    show iteHead st f g h _ = iteHead st f g h _
    refine iteHead_congr (fun h0 h1 => ?_)
    show iteStep V B (iteM V B d) st f g h = iteStep V B (iteM V B m) st f g h
    obtain ⟨v, hv⟩ : ∃ v, mn V st.L st.n f g h = v := ⟨_, rfl⟩
    obtain ⟨hv0, hvV, ⟨f1, g1, k1, hm1⟩, hnext⟩ := step_ready hV ok hf hg hh hm h0 h1 hv
    unfold iteStep
    rw [hv, iteM_fuel hV m d st _ _ _ ok f1 g1 k1 hm1 (by omega)]
    have A := iteM_ok (B := B) hV m st _ _ _ ok f1 g1 k1 hm1
    generalize iteM V B m st (halfN st.L st.n f v false) (halfN st.L st.n g v false) (halfN st.L st.n h v false) = a at A ⊢
    obtain ⟨_, _, _, f4, g4, k4, hm2⟩ := hnext a A
    unfold iteB
    rw [iteM_fuel hV m d a.2 _ _ _ A.ok f4 g4 k4 hm2 (by omega)]
theorem iteT_few (hV : 0 ≤ V) {st : St} {f g h : Int} (ok : Ok V st) (hf : isN st.n f = true) (hg : isN st.n g = true) (hh : isN st.n h = true) {m : Nat} (hm : V - mn V st.L st.n f g h ≤ m) : (iteT V B st f g h).2.n ≤ st.n + 2 ^ m := by
  have hp : 1 ≤ 2 ^ m := Nat.one_le_two_pow
  rcases Nat.le_total m V.toNat with h1 | h1
  · have e : iteT V B st f g h = iteM V B m st f g h := iteM_fuel hV m _ st f g h ok hf hg hh hm h1
    rw [e]
    have := (iteM_ok (B := B) hV m st f g h ok hf hg hh hm).few
    omega
  · have h2 := (iteT_ok (B := B) hV ok hf hg hh).few
    have h3 : 2 ^ V.toNat ≤ 2 ^ m := Nat.pow_le_pow_right (by omega) h1
    omega
/-- A diagram hangs on the last so many variables alone. -/
def Late (V : Int) (st : St) (m : Nat) (x : Int) : Prop := V - (m : Int) ≤ varN V st.L st.n x
theorem Late.ext {st st' : St} {m : Nat} {x : Int} (h : Late V st m x) (e : Ext st.L st.n st'.L st'.n) (hx : isN st.n x = true) : Late V st' m x := by
  unfold Late at *
  rw [e.var (isN_iff.1 hx).2]
  exact h
theorem Late.mono {st : St} {m m' : Nat} {x : Int} (h : Late V st m x) (hm : m ≤ m') : Late V st m' x := by
  unfold Late at *
  omega
theorem late_all (hV : 0 ≤ V) {st : St} (g : NodePlain.Good V st.L st.n) (x : Int) : Late V st V.toNat x := by
  unfold Late
  have := var_pos hV g x
  omega
theorem var_low {L : Nat → Nd} {n : Nat} {x : Int} (hx : x < 2) : varN V L n x = V := by
  unfold varN
  rw [if_neg (by omega)]
theorem late_low {st : St} (m : Nat) {x : Int} (hx : x < 2) : Late V st m x := by
  unfold Late
  rw [var_low hx]
  omega
/-- What an if-then-else of late ones comes to. -/
theorem ite_late {kc : Nat} {st : St} (hV0 : 0 ≤ V) (hV : V ≤ 8) (h : Fine V B kc st) {f g k : Int} (hf : isN st.n f = true) (hg : isN st.n g = true) (hk : isN st.n k = true) {m : Nat} (lf : Late V st m f) (lg : Late V st m g) (lk : Late V st m k) (room : ((st.n + 2 ^ V.toNat : Nat) : Int) < B) {r : Int × St} (hr : iteT V B st f g k = r) :
    Fine V B (kc + 1) r.2 ∧ isN r.2.n r.1 = true ∧ r.2.n ≤ st.n + 2 ^ m ∧ Ext st.L st.n r.2.L r.2.n ∧ r.2.s = false ∧ Late V r.2 m r.1 ∧ ∀ β, ev r.2.L β r.1 = if ev st.L β f then ev st.L β g else ev st.L β k := by
  obtain ⟨h1, h2, _, h4, h5, h6⟩ := ite_fine hV0 hV h hf hg hk room hr
  have hm : V - mn V st.L st.n f g k ≤ m := by unfold Late at lf lg lk; unfold mn; omega
  subst hr
  refine ⟨h1, h2, iteT_few hV0 h.wf.ok hf hg hk hm, h4, h5, ?_, h6⟩
  have hs := (iteT_ok (B := B) hV0 h.wf.ok hf hg hk).sem h5
  have hv := hs.var
  rw [mn_ext h4 hf hg hk] at hv
  unfold Late
  omega
end Go.Proofs.Ytloidoekmicloaa
