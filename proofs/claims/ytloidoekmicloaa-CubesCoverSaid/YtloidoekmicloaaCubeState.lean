/-
  A maker behind a play with its list and its rows; what a cover of one of its diagrams is.
-/
import Derived.Test.YtloidoekmicloaaCubeLives
import Derived.Test.YtloidoekmicloaaCubeCovers
import Derived.Test.YtloidoekmicloaaCubeDiagram
import Derived.Test.YtloidoekmicloaaPlayState
import Derived.Test.YtloidoekmicloaaCubeSame
set_option linter.unusedVariables false
set_option linter.unusedSimpArgs false
set_option linter.unnecessarySimpa false
namespace Go.Proofs.Ytloidoekmicloaa
open Go.ChangeShapes Go.WideShapes Go.ChangeAt Go.RowKit Go.Deep NodePlain
/-- The maker of a law's own, behind its play, with list and rows; u nodes and c calls more. -/
structure CuS (w W : World) (k : Nat) (s : PlS) (u c d lb rb m : Nat) (bs : List Nat) (st : St) (kc : Nat) (calls : Int) (F : Nat → Prop) : Prop where
  dg : Dg w.heap.size W k d 1048576 st kc calls F
  ext : Ext s.st.L s.st.n st.L st.n
  n : st.n ≤ 23040 + u
  kc : kc ≤ 90 + c
  lf : ¬ F lb
  rf : ¬ F rb
  ll : lb < W.heap.size
  rl : rb < W.heap.size
  l : ∀ (i : Nat) (x : Int), s.l[i]? = some x → W.cell? ⟨lb, i, none⟩ = some (.int .i64 x)
  r : ∀ (i b : Nat), bs[i]? = some b → W.cell? ⟨rb, i, none⟩ = some (.slice (some ⟨b, 0, none⟩) m m)
  row : ∀ (i b : Nat) (R : Nat → Bool), bs[i]? = some b → s.Rs[i]? = some R → RowAt W b m R ∧ ¬ F b
  kp : Keeps (fun x => w.heap.size ≤ x) w W
section
variable {w W W' : World} {k : Nat} {s : PlS} {u c d lb rb m : Nat} {bs : List Nat} {st st' : St} {kc kc' : Nat} {calls calls' : Int} {F F' : Nat → Prop}
theorem CuS.to (h : CuS w W k s u c d lb rb m bs st kc calls F) {n a : Nat} (t : DgTo w.heap.size W k d 1048576 st kc F n a st' kc' calls' F' W') : CuS w W' k s (u + n) (c + a) d lb rb m bs st' kc' calls' F' := by
  have hm := t.mv
  have h1 := t.hn
  have h2 := t.hc
  have h3 := h.n
  have h4 := h.kc
  refine ⟨t.dg, h.ext.trans t.ext, by omega, by omega, fun hx => (hm.fp lb hx).elim h.lf (fun hx => by have := h.ll; omega), fun hx => (hm.fp rb hx).elim h.rf (fun hx => by have := h.rl; omega), Nat.lt_of_lt_of_le h.ll hm.keeps.size, Nat.lt_of_lt_of_le h.rl hm.keeps.size,
    fun i x hx => (hm.keeps.cell (p := ⟨lb, i, none⟩) h.ll h.lf).trans (h.l i x hx), fun i b hb => (hm.keeps.cell (p := ⟨rb, i, none⟩) h.rl h.rf).trans (h.r i b hb), fun i b R h1 h2 => ?_, h.kp.trans_new hm.keeps (fun x hx hF => h.dg.fw x hF)⟩
  obtain ⟨q1, q2⟩ := h.row i b R h1 h2
  exact ⟨q1.keeps hm.keeps q2, fun hf => (hm.fp b hf).elim q2 (fun hf => by have := lt_of_heap q1; omega)⟩
theorem CuS.more (h : CuS w W k s u c d lb rb m bs st kc calls F) {u' c' : Nat} (hu : u ≤ u') (hc : c ≤ c') : CuS w W k s u' c' d lb rb m bs st kc calls F :=
  ⟨h.dg, h.ext, by have := h.n; omega, by have := h.kc; omega, h.lf, h.rf, h.ll, h.rl, h.l, h.r, h.row, h.kp⟩
theorem CuS.quiet (h : CuS w W k s u c d lb rb m bs st kc calls F) (hk : Keeps (fun _ => False) W W') : CuS w W' k s u c d lb rb m bs st kc calls F := by
  have := h.to ((DgTo.refl h.dg).quiet hk)
  exact this
theorem CuS.below (h : CuS w W k s u c d lb rb m bs st kc calls F) : Below w.heap.size w W := h.kp.below (Nat.le_refl _) (fun x hx hs => by omega)
/-- Behind the play. -/
theorem cus_of {w1 w2 : World} {Fd Fd' : Nat → Prop} {lv rv : Value} {os : List OpR} (hk6 : k ≤ 6) (hs : playM k 1048576 k os = s) (hd : Bd w1 d k 1048576 st0 0 Fd ∧ Keeps (fun _ => False) w w1 ∧ ∀ x, Fd x → w.heap.size ≤ x) (pd : Pl w1.heap.size w2 d k 1048576 m s.st s.calls Fd' s.l lv s.Rs rv bs ∧ Mv w1 w2 Fd Fd') (h0 : 0 < s.l.length) (hn : s.st.n ≤ 23040) (hc : s.calls ≤ 90) :
    ∃ lb lc rb rc, lv = .slice (some ⟨lb, 0, none⟩) s.l.length lc ∧ s.l.length ≤ lc ∧ rv = .slice (some ⟨rb, 0, none⟩) s.l.length rc ∧ s.l.length ≤ rc ∧ bs.length = s.l.length ∧ ∃ F, CuS w w2 k s 0 0 d lb rb m bs s.st 90 s.calls F := by
  obtain ⟨lb, lc, rb, rc, e1, e2, e3, e4, e5, e5', e6, e6', e7, e7'⟩ := pd.1.form h0
  have q1 := hd.2.1.size
  have k2 : Keeps (fun x => w.heap.size ≤ x) w w1 := hd.2.1.mono (fun _ _ x => x.elim)
  have k3 : Keeps (fun x => w.heap.size ≤ x) w w2 := k2.trans_new pd.2.keeps (fun i hi hx => hd.2.2 i hx)
  obtain ⟨j, hj, _, hI, _⟩ := playM_inv (V := k) (B := 1048576) (by omega) (by omega) k os
  have hB := playM_bnd (V := k) (B := 1048576) (by omega) k os
  rw [hs] at hI hB
  refine ⟨lb, lc, rb, rc, e1, e3, e2, e4, pd.1.l1, Fd', ⟨⟨pd.1.bd, ⟨hI.wf.mono (by omega), hB⟩, by omega, by omega, fun x hx => ?_⟩, Ext.refl _ _, by omega, Nat.le_refl _, e5, e5', e6, e6', e7, e7', fun i b R h1 h2 => pd.1.row i b R h1 h2, k3⟩⟩
  exact (pd.2.fp x hx).elim (hd.2.2 x) (fun hx => by omega)
end
theorem few_ev {k : Nat} {L : Nat → Nd} {n : Nat} (g : NodePlain.Good (k : Int) L n) {f : Int} (hf : isN n f = true) : Few k (fun β => ev L β f) := fun β γ e => by
  rw [isN_iff] at hf
  exact ev_below g (b1 := β) (b2 := γ) (fun x hx => e x (by omega)) (n + 2) f (by omega) (by omega)
theorem isB_num {k : Nat} {c : List Int} (h : c.length = k) (β : Nat → Bool) : isB (βN (numB β k)) 0 c = isB β 0 c := isB_congr fun v hv => numB_bit β k v (by omega)
section
variable {k m : Nat} {S g : (Nat → Bool) → Bool} {L : List (List Int)} {R : Nat → Bool}
theorem cov_all (h : Isop k S S L g) (hR : ∀ X, S (βN X) = R X) : covT L (-1) R m = true := by
  unfold covT
  refine decide_eq_true fun X _ => ?_
  rw [← hR, Bool.eq_iff_iff, someT_iff]
  constructor
  · rintro ⟨i, c, hc, _, h2⟩
    exact h.hi _ ((h.eq _).2 ⟨c, List.mem_of_getElem? hc, h2⟩)
  · intro h2
    obtain ⟨c, hc, h3⟩ := (h.eq _).1 (h.lo _ h2)
    obtain ⟨i, hi⟩ := List.getElem?_of_mem hc
    exact ⟨i, c, hi, by omega, h3⟩
theorem cov_but (h : Isop k S S L g) (hR : ∀ X, S (βN X) = R X) (hm : 2 ^ k = m) {j : Nat} (hj : j < L.length) : covT L (j : Int) R m = false := by
  unfold covT
  refine decide_eq_false fun hall => ?_
  have hcj := List.getElem?_eq_getElem hj
  obtain ⟨β, _, b2, b3⟩ := h.irr j _ hcj
  have hX : numB β k < m := by rw [← hm]; exact numB_lt β k
  have e := hall _ hX
  have hlen : ∀ c, c ∈ L → c.length = k := fun c hc => (h.cube c hc).1
  have h1 : R (numB β k) = true := by
    rw [← hR]
    refine h.hi _ ((h.eq _).2 ⟨_, List.mem_of_getElem? hcj, ?_⟩)
    rw [isB_num (hlen _ (List.mem_of_getElem? hcj))]
    exact b2
  rw [h1, someT_iff] at e
  obtain ⟨i, c, hc, h2, h3⟩ := e
  rw [isB_num (hlen _ (List.mem_of_getElem? hc)), b3 i c hc (by omega)] at h3
  cases h3
theorem cov_prime (h : Isop k S S L g) (hR : ∀ X, S (βN X) = R X) (hm : 2 ^ k = m) {c : List Int} (hc : c ∈ L) (v : Nat) (x : Int) (hx : c[v]? = some x) (hx0 : 0 ≤ x) : beyT (c.set v (-1)) R m = true := by
  obtain ⟨β, b1, b2⟩ := h.pri c hc v x hx hx0
  unfold beyT
  rw [List.any_eq_true]
  refine ⟨numB β k, List.mem_range.2 (by rw [← hm]; exact numB_lt β k), ?_⟩
  have hg : ∀ γ, g γ = S γ := fun γ => by
    rw [Bool.eq_iff_iff]
    exact ⟨h.hi γ, h.lo γ⟩
  have hfew := h.few (βN (numB β k)) β (fun w hw => numB_bit β k w hw)
  rw [hg, hg, b2] at hfew
  rw [isB_num (by rw [List.length_set]; exact (h.cube c hc).1), b1, ← hR, hfew]
  rfl
theorem cov_right (h : Isop k S S L g) (hk6 : k ≤ 6) {c : List Int} (hc : c ∈ L) : rightC k c = true := rightC_iff.2 ⟨by omega, by omega, by rw [(h.cube c hc).1], (h.cube c hc).2⟩
end
end Go.Proofs.Ytloidoekmicloaa
