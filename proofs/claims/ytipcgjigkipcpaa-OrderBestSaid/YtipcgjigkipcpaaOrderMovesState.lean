/-
  A maker of diagrams behind a play, its list beside it: what moves of its diagrams leave.
-/
import Derived.Test.YtipcgjigkipcpaaOrdMovesPlain
import Derived.Test.YtipcgjigkipcpaaOrdLives
import Derived.Test.YtipcgjigkipcpaaPlayState
set_option linter.unusedVariables false
set_option linter.unusedSimpArgs false
set_option linter.unnecessarySimpa false
namespace Go.Proofs.Ytipcgjigkipcpaa
open Go.ChangeShapes Go.WideShapes Go.ChangeAt Go.RowKit Go.Deep NodePlain
section
variable {w W W' : World} {k : Nat} {s : PlS} {u c : Nat} {d lb : Nat} {st : St} {kc : Nat} {calls : Int} {F : Nat → Prop}
theorem ReadsI.old {v : Value} {l : List Int} (h : ReadsI w v l) (hk : Keeps (fun x => w.heap.size ≤ x) w W) : ReadsI W v l := by
  obtain ⟨ao, cap, hv, hle, hr⟩ := h
  refine ⟨ao, cap, hv, hle, fun h0 => ?_⟩
  obtain ⟨g, off, h1, h2, h3⟩ := hr h0
  exact ⟨g, off, h1, Nat.lt_of_lt_of_le h2 hk.size, fun j x hj => (hk.cell (p := ⟨g, off + j, none⟩) h2 (fun hx => by have : w.heap.size ≤ g := hx; omega)).trans (h3 j x hj)⟩
theorem ReadsI.lt {v : Value} {l : List Int} (h : ReadsI w v l) {g off n cap : Nat} (e : v = .slice (some ⟨g, off, none⟩) n cap) (h0 : 0 < l.length) : g < w.heap.size := by
  obtain ⟨ao, cap, hv, hle, hr⟩ := h
  obtain ⟨g', off', h1, h2, h3⟩ := hr h0
  subst h1
  rw [hv] at e
  simp only [Value.slice.injEq, Option.some.injEq, Addr.mk.injEq] at e
  omega
set_option maxRecDepth 100000
set_option maxHeartbeats 800000
/-- A move. -/
theorem MkS.moved (h : MkS w W k s u c d lb st kc calls F) (hk6 : k ≤ 6) (hu : u ≤ 900000) (hc : c ≤ 20000) {l : List Int} (ho : ordB k l = true) {f : Int} (hf : isN st.n f = true) {v : Value} (hr : ReadsI W v l) (hrf : ∀ g off n cap, v = .slice (some ⟨g, off, none⟩) n cap → 0 < l.length → ¬ F g) :
    Calls Try.prog 21 #[.pointer (some ⟨d, 0, none⟩), .int .i64 f, v] W fun e W' => ∃ x st' kc' calls' F', e = .returned (.tuple #[.int .i64 x, .bool true]) ∧
      Hid (MkS w W' k s (u + 4032) (c + 126) d lb st' kc' calls' F' ∧ Mv W W' F F' ∧ Ext st.L st.n st'.L st'.n ∧ isN st'.n x = true ∧ ∀ β, ev st'.L β x = ev st.L (fun v => β (l.getD v 0).toNat) f) := by
  have hv0 := var_pos (V := (k : Int)) (by omega) h.fine.wf.ok.good f
  obtain ⟨q1, q2⟩ := costs6 (V := (k : Int)) (by omega) hv0
  have hn := h.n
  have hc1 := h.c1
  have hkc := h.kc
  refine (omove_yes h.bd (by omega) (by omega) rfl hf hr hrf ho h.fine.wf h.fine.bnd (by omega) h.c0 (by omega) (by omega)).mono ?_
  rintro e W' ⟨x, st', kc', calls', K', F', rfl, hB, hM, hR, hN⟩
  have r1 := hR.out.n
  have r2 := hR.out.kc
  have r3 := hN.out
  exact ⟨x, st', kc', calls', F', rfl, h.move hB.out hM.out ⟨hR.out.wf, hR.out.bnd⟩ hR.out.ext (by omega) (by omega) r3.1 (by omega), hM.out, hR.out.ext, hR.out.isx, hR.out.ev⟩
end
end Go.Proofs.Ytipcgjigkipcpaa
