/-
  A maker of diagrams behind a play, its list beside it: what moves of its diagrams leave.
-/
import Derived.Test.YtipcgjigkipcpaaOrdMovesPlain
import Derived.Test.YtipcgjigkipcpaaOrdLives
import Derived.Test.YtipcgjigkipcpaaItePlaySem
set_option linter.unusedVariables false
set_option linter.unusedSimpArgs false
set_option linter.unnecessarySimpa false
namespace Go.Proofs.Ytipcgjigkipcpaa
open Go.ChangeShapes Go.WideShapes Go.ChangeAt Go.RowKit Go.Deep NodePlain
/-- A maker with the budget of the laws, of the call's own, and the list of a play beside it; 'u' nodes more, 'c' calls more. -/
structure MkS (w W : World) (k : Nat) (s : PlS) (u c : Nat) (d lb : Nat) (st : St) (kc : Nat) (calls : Int) (F : Nat → Prop) : Prop where
  bd : Bd W d k 1048576 st calls F
  fine : Fine k 1048576 kc st
  ext : Ext s.st.L s.st.n st.L st.n
  n : st.n ≤ 23040 + u
  kc : kc ≤ 90 + c
  c0 : 0 ≤ calls
  c1 : calls ≤ ((90 + c : Nat) : Int)
  nl : ¬ F lb
  lt : lb < W.heap.size
  fw : ∀ x, F x → w.heap.size ≤ x
  l : ∀ (i : Nat) (x : Int), s.l[i]? = some x → W.cell? ⟨lb, i, none⟩ = some (.int .i64 x)
  kp : Keeps (fun x => w.heap.size ≤ x) w W
  lz : w.heap.size ≤ lb
section
variable {w W W' : World} {k : Nat} {s : PlS} {u c : Nat} {d lb : Nat} {st : St} {kc : Nat} {calls : Int} {F : Nat → Prop}
theorem MkS.ns (h : MkS w W k s u c d lb st kc calls F) (hu : u ≤ 1000000) : st.s = false := fine_ns2 h.fine (by have := h.n; omega)
where
  fine_ns2 {V B : Int} {kc : Nat} {st : St} (h : Fine V B kc st) (room : ((st.n : Nat) : Int) < B) : st.s = false := by
    cases e : st.s with
    | false => rfl
    | true => have := h.bnd.2 e; omega
theorem MkS.quiet (h : MkS w W k s u c d lb st kc calls F) (hk : Keeps (fun _ => False) W W') : MkS w W' k s u c d lb st kc calls F :=
  ⟨h.bd.quiet hk, h.fine, h.ext, h.n, h.kc, h.c0, h.c1, h.nl, Nat.lt_of_lt_of_le h.lt hk.size, h.fw, fun i x hx => (hk.cell (p := ⟨lb, i, none⟩) h.lt (fun x => x)).trans (h.l i x hx), h.kp.trans_new hk (fun _ _ x => x.elim), h.lz⟩
theorem MkS.below (h : MkS w W k s u c d lb st kc calls F) : Below w.heap.size w W := h.kp.below (Nat.le_refl _) (fun x hx hs => by omega)
/-- Behind a call of the maker. -/
theorem MkS.move (h : MkS w W k s u c d lb st kc calls F) {st' : St} {kc' : Nat} {calls' : Int} {F' : Nat → Prop} {u' c' : Nat} (hb : Bd W' d k 1048576 st' calls' F') (hm : Mv W W' F F') (hf : Fine k 1048576 kc' st') (he : Ext st.L st.n st'.L st'.n) (hn : st'.n ≤ 23040 + u') (hk : kc' ≤ 90 + c') (h0 : 0 ≤ calls') (h1 : calls' ≤ ((90 + c' : Nat) : Int)) :
    MkS w W' k s u' c' d lb st' kc' calls' F' :=
  ⟨hb, hf, h.ext.trans he, hn, hk, h0, h1, fun hx => (hm.fp lb hx).elim h.nl (fun hx => by have := h.lt; omega), Nat.lt_of_lt_of_le h.lt hm.keeps.size, fun x hx => (hm.fp x hx).elim (h.fw x) (fun hx => Nat.le_trans h.kp.size hx),
    fun i x hx => (hm.keeps.cell (p := ⟨lb, i, none⟩) h.lt h.nl).trans (h.l i x hx), h.kp.trans_new hm.keeps (fun x hx hF => h.fw x hF), h.lz⟩
theorem ReadsI.old {v : Value} {l : List Int} (h : ReadsI w v l) (hk : Keeps (fun x => w.heap.size ≤ x) w W) : ReadsI W v l := by
  obtain ⟨ao, cap, hv, hle, hr⟩ := h
  refine ⟨ao, cap, hv, hle, fun h0 => ?_⟩
  obtain ⟨g, off, h1, h2, h3⟩ := hr h0
  exact ⟨g, off, h1, Nat.lt_of_lt_of_le h2 hk.size, fun j x hj => (hk.cell (p := ⟨g, off + j, none⟩) h2 (fun hx => by have : w.heap.size ≤ g := hx; omega)).trans (h3 j x hj)⟩
theorem ReadsI.lt {v : Value} {l : List Int} (h : ReadsI w v l) {g off n cap : Nat} (e : v = .slice (some ⟨g, off, none⟩) n cap) (h0 : 0 < l.length) : g < w.heap.size := by
  obtain ⟨ao, cap, hv, hle, hr⟩ := h
  obtain ⟨g', off', h1, h2, h3⟩ := hr h0
  subst h1
  rw [hv] at e
  simp only [Value.slice.injEq, Option.some.injEq, Addr.mk.injEq] at e
  omega
/-- Behind the play. -/
theorem mks_of {w1 w2 : World} {Fd Fd' : Nat → Prop} {m : Nat} {lv rv : Value} {bs : List Nat} {os : List OpR} (hk6 : k ≤ 6) (hs : playM k 1048576 k os = s) (hd : Bd w1 d k 1048576 st0 0 Fd ∧ Keeps (fun _ => False) w w1 ∧ ∀ x, Fd x → w.heap.size ≤ x) (pd : Pl w1.heap.size w2 d k 1048576 m s.st s.calls Fd' s.l lv s.Rs rv bs ∧ Mv w1 w2 Fd Fd') (h0 : 0 < s.l.length) (hn : s.st.n ≤ 23040) (hc : s.calls ≤ 90) :
    ∃ lb lc, lv = .slice (some ⟨lb, 0, none⟩) s.l.length lc ∧ s.l.length ≤ lc ∧ ∃ F, MkS w w2 k s 0 0 d lb s.st 90 s.calls F := by
  obtain ⟨lb, lc, rb, rc, e1, e2, e3, e4, e5, _, e6, _, e7, _⟩ := pd.1.form h0
  have q1 := hd.2.1.size
  have k2 : Keeps (fun x => w.heap.size ≤ x) w w1 := hd.2.1.mono (fun _ _ x => x.elim)
  have k3 : Keeps (fun x => w.heap.size ≤ x) w w2 := k2.trans_new pd.2.keeps (fun i hi hx => hd.2.2 i hx)
  obtain ⟨j, hj, _, hI, _⟩ := playM_inv (V := k) (B := 1048576) (by omega) (by omega) k os
  have hB := playM_bnd (V := k) (B := 1048576) (by omega) k os
  rw [hs] at hI hB
  refine ⟨lb, lc, e1, e3, Fd', ⟨pd.1.bd, ⟨hI.wf.mono (by omega), hB⟩, Ext.refl _ _, by omega, Nat.le_refl _, by omega, by omega, e5, e6, fun x hx => ?_, e7, k3, ?_⟩⟩
  · exact (pd.2.fp x hx).elim (hd.2.2 x) (fun hx => by omega)
  · have := pd.1.lz lb (by rw [e1]; rfl)
    omega
set_option maxRecDepth 100000
set_option maxHeartbeats 800000
/-- A move. -/
theorem MkS.moved (h : MkS w W k s u c d lb st kc calls F) (hk6 : k ≤ 6) (hu : u ≤ 900000) (hc : c ≤ 20000) {l : List Int} (ho : ordB k l = true) {f : Int} (hf : isN st.n f = true) {v : Value} (hr : ReadsI W v l) (hrf : ∀ g off n cap, v = .slice (some ⟨g, off, none⟩) n cap → 0 < l.length → ¬ F g) :
    Calls Try.prog 21 #[.pointer (some ⟨d, 0, none⟩), .int .i64 f, v] W fun e W' => ∃ x st' kc' calls' F', e = .returned (.tuple #[.int .i64 x, .bool true]) ∧
      Hid (MkS w W' k s (u + 4032) (c + 126) d lb st' kc' calls' F' ∧ Mv W W' F F' ∧ Ext st.L st.n st'.L st'.n ∧ isN st'.n x = true ∧ ∀ β, ev st'.L β x = ev st.L (fun v => β (l.getD v 0).toNat) f) := by
  have hv0 := var_pos (V := (k : Int)) (by omega) h.fine.wf.ok.good f
  obtain ⟨q1, q2⟩ := costs6 (V := (k : Int)) (by omega) hv0
  have hn := h.n
  have hc1 := h.c1
  have hkc := h.kc
  refine (omove_yes h.bd (by omega) (by omega) rfl hf hr hrf ho h.fine.wf h.fine.bnd (by omega) h.c0 (by omega) (by omega)).mono ?_
  rintro e W' ⟨x, st', kc', calls', K', F', rfl, hB, hM, hR, hN⟩
  have r1 := hR.out.n
  have r2 := hR.out.kc
  have r3 := hN.out
  exact ⟨x, st', kc', calls', F', rfl, h.move hB.out hM.out ⟨hR.out.wf, hR.out.bnd⟩ hR.out.ext (by omega) (by omega) r3.1 (by omega), hM.out, hR.out.ext, hR.out.isx, hR.out.ev⟩
end
end Go.Proofs.Ytipcgjigkipcpaa
