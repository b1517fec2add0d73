/-
  A maker of diagrams behind a play, its list beside it.
-/
import Derived.Test.YtloidoekmicloaaMF
import Derived.Test.YtloidoekmicloaaItePlaySem
set_option linter.unusedVariables false
set_option linter.unusedSimpArgs false
set_option linter.unnecessarySimpa false
namespace Go.Proofs.Ytloidoekmicloaa
open Go.ChangeShapes Go.WideShapes Go.ChangeAt Go.RowKit Go.Deep NodePlain
/-- A maker with the budget of the laws, of the call's own, and the list of a play beside it; 'u' nodes more, 'c' calls more. -/
structure MkS (w W : World) (k : Nat) (s : PlS) (u c : Nat) (d lb : Nat) (st : St) (kc : Nat) (calls : Int) (F : Nat → Prop) : Prop where
  bd : Bd W d k 1048576 st calls F
  fine : Fine k 1048576 kc st
  ext : Ext s.st.L s.st.n st.L st.n
  n : st.n ≤ 23040 + u
  kc : kc ≤ 90 + c
  c0 : 0 ≤ calls
  c1 : calls ≤ ((90 + c : Nat) : Int)
  nl : ¬ F lb
  lt : lb < W.heap.size
  fw : ∀ x, F x → w.heap.size ≤ x
  l : ∀ (i : Nat) (x : Int), s.l[i]? = some x → W.cell? ⟨lb, i, none⟩ = some (.int .i64 x)
  kp : Keeps (fun x => w.heap.size ≤ x) w W
  lz : w.heap.size ≤ lb
section
variable {w W W' : World} {k : Nat} {s : PlS} {u c : Nat} {d lb : Nat} {st : St} {kc : Nat} {calls : Int} {F : Nat → Prop}
theorem MkS.ns (h : MkS w W k s u c d lb st kc calls F) (hu : u ≤ 1000000) : st.s = false := fine_ns2 h.fine (by have := h.n; omega)
where
  fine_ns2 {V B : Int} {kc : Nat} {st : St} (h : Fine V B kc st) (room : ((st.n : Nat) : Int) < B) : st.s = false := by
    cases e : st.s with
    | false => rfl
    | true => have := h.bnd.2 e; omega
theorem MkS.quiet (h : MkS w W k s u c d lb st kc calls F) (hk : Keeps (fun _ => False) W W') : MkS w W' k s u c d lb st kc calls F :=
  ⟨h.bd.quiet hk, h.fine, h.ext, h.n, h.kc, h.c0, h.c1, h.nl, Nat.lt_of_lt_of_le h.lt hk.size, h.fw, fun i x hx => (hk.cell (p := ⟨lb, i, none⟩) h.lt (fun x => x)).trans (h.l i x hx), h.kp.trans_new hk (fun _ _ x => x.elim), h.lz⟩
theorem MkS.below (h : MkS w W k s u c d lb st kc calls F) : Below w.heap.size w W := h.kp.below (Nat.le_refl _) (fun x hx hs => by omega)
/-- Behind a call of the maker. -/
theorem MkS.move (h : MkS w W k s u c d lb st kc calls F) {st' : St} {kc' : Nat} {calls' : Int} {F' : Nat → Prop} {u' c' : Nat} (hb : Bd W' d k 1048576 st' calls' F') (hm : Mv W W' F F') (hf : Fine k 1048576 kc' st') (he : Ext st.L st.n st'.L st'.n) (hn : st'.n ≤ 23040 + u') (hk : kc' ≤ 90 + c') (h0 : 0 ≤ calls') (h1 : calls' ≤ ((90 + c' : Nat) : Int)) :
    MkS w W' k s u' c' d lb st' kc' calls' F' :=
  ⟨hb, hf, h.ext.trans he, hn, hk, h0, h1, fun hx => (hm.fp lb hx).elim h.nl (fun hx => by have := h.lt; omega), Nat.lt_of_lt_of_le h.lt hm.keeps.size, fun x hx => (hm.fp x hx).elim (h.fw x) (fun hx => Nat.le_trans h.kp.size hx),
    fun i x hx => (hm.keeps.cell (p := ⟨lb, i, none⟩) h.lt h.nl).trans (h.l i x hx), h.kp.trans_new hm.keeps (fun x hx hF => h.fw x hF), h.lz⟩
/-- Behind the play. -/
theorem mks_of {w1 w2 : World} {Fd Fd' : Nat → Prop} {m : Nat} {lv rv : Value} {bs : List Nat} {os : List OpR} (hk6 : k ≤ 6) (hs : playM k 1048576 k os = s) (hd : Bd w1 d k 1048576 st0 0 Fd ∧ Keeps (fun _ => False) w w1 ∧ ∀ x, Fd x → w.heap.size ≤ x) (pd : Pl w1.heap.size w2 d k 1048576 m s.st s.calls Fd' s.l lv s.Rs rv bs ∧ Mv w1 w2 Fd Fd') (h0 : 0 < s.l.length) (hn : s.st.n ≤ 23040) (hc : s.calls ≤ 90) :
    ∃ lb lc, lv = .slice (some ⟨lb, 0, none⟩) s.l.length lc ∧ s.l.length ≤ lc ∧ ∃ F, MkS w w2 k s 0 0 d lb s.st 90 s.calls F := by
  obtain ⟨lb, lc, rb, rc, e1, e2, e3, e4, e5, _, e6, _, e7, _⟩ := pd.1.form h0
  have q1 := hd.2.1.size
  have k2 : Keeps (fun x => w.heap.size ≤ x) w w1 := hd.2.1.mono (fun _ _ x => x.elim)
  have k3 : Keeps (fun x => w.heap.size ≤ x) w w2 := k2.trans_new pd.2.keeps (fun i hi hx => hd.2.2 i hx)
  obtain ⟨j, hj, _, hI, _⟩ := playM_inv (V := k) (B := 1048576) (by omega) (by omega) k os
  have hB := playM_bnd (V := k) (B := 1048576) (by omega) k os
  rw [hs] at hI hB
  refine ⟨lb, lc, e1, e3, Fd', ⟨pd.1.bd, ⟨hI.wf.mono (by omega), hB⟩, Ext.refl _ _, by omega, Nat.le_refl _, by omega, by omega, e5, e6, fun x hx => ?_, e7, k3, ?_⟩⟩
  · exact (pd.2.fp x hx).elim (hd.2.2 x) (fun hx => by omega)
  · have := pd.1.lz lb (by rw [e1]; rfl)
    omega
end
end Go.Proofs.Ytloidoekmicloaa
