/-
  The best order that is reached by changing neighbours: the program's.
-/
import Derived.Test.YtipcgjigkipcpaaBestPlain
import Derived.Test.YtipcgjigkipcpaaOrderMovesState
import Derived.Test.YtipcgjigkipcpaaQuantState
import Derived.Test.YtipcgjigkipcpaaQuantSize
import Derived.Test.YtipcgjigkipcpaaOrdBits
import Derived.Laws.CopyOwn
set_option linter.unusedVariables false
set_option linter.unusedSimpArgs false
set_option linter.unnecessarySimpa false
namespace Go.Proofs.Ytipcgjigkipcpaa
open Go.ChangeShapes Go.WideShapes Go.ChangeAt Go.RowKit Go.Deep NodePlain
/-- A diagram by variables in another order. -/
def byOrd (E : (Nat → Bool) → Bool) (l : List Int) : (Nat → Bool) → Bool := fun β => E (fun v => β (l.getD v 0).toNat)
/-- A row of numbers outside of a maker's blocks. -/
structure RowF (W : World) (F : Nat → Prop) (v : Value) (l : List Int) : Prop where
  rd : ReadsI W v l
  nf : ∀ g off n cap, v = .slice (some ⟨g, off, none⟩) n cap → 0 < l.length → ¬ F g
theorem RowF.move {W W' : World} {F F' : Nat → Prop} {v : Value} {l : List Int} (h : RowF W F v l) (m : Mv W W' F F') : RowF W' F' v l := by
  obtain ⟨⟨ao, cap, hv, hle, hr⟩, nf⟩ := h
  refine ⟨⟨ao, cap, hv, hle, fun h0 => ?_⟩, fun g off n c e h0 hF => ?_⟩
  · obtain ⟨g, off, h1, h2, h3⟩ := hr h0
    have hg := nf g off _ _ (by rw [hv, h1]) h0
    exact ⟨g, off, h1, Nat.lt_of_lt_of_le h2 m.keeps.size, fun j x hj => (m.keeps.cell (p := ⟨g, off + j, none⟩) h2 hg).trans (h3 j x hj)⟩
  · obtain ⟨g', off', h1, h2, h3⟩ := hr h0
    have e2 := e
    rw [hv, h1] at e2
    simp only [Value.slice.injEq, Option.some.injEq, Addr.mk.injEq] at e2
    rcases m.fp g hF with hx | hx
    · exact nf g off n c e h0 hx
    · omega
theorem RowF.quiet {W W' : World} {F : Nat → Prop} {v : Value} {l : List Int} (h : RowF W F v l) (hk : Keeps (fun _ => False) W W') : RowF W' F v l := h.move (Mv.quiet hk)
theorem rowF_of {W W' : World} {F : Nat → Prop} {b m : Nat} {G : Nat → Int} {l : List Int} (hF : ∀ x, F x → x < W.heap.size) (hb : W.heap.size ≤ b) (h : IRow W' b m G) (hl : (List.range m).map G = l) : RowF W' F (.slice (some ⟨b, 0, none⟩) m m) l := by
  refine ⟨hl ▸ h.reads, fun g off n cap e _ hg => ?_⟩
  simp only [Value.slice.injEq, Option.some.injEq, Addr.mk.injEq] at e
  have := hF g hg
  omega
def idL (k : Nat) : List Int := (List.range k).map fun j : Nat => (j : Int)
theorem idL_ord {k : Nat} (hk : k ≤ 61) : ordB k (idL k) = true := by
  refine ordB_iff.2 ⟨by omega, by omega, by simp [idL], fun x hx => ?_, ?_⟩
  · obtain ⟨y, hy, rfl⟩ := List.mem_map.1 hx
    have := List.mem_range.1 hy
    omega
  · refine List.pairwise_iff_getElem.2 fun a b ha hb hab => ?_
    unfold idL at ha hb ⊢
    rw [List.length_map, List.length_range] at ha hb
    rw [List.getElem_map, List.getElem_map, List.getElem_range, List.getElem_range]
    omega
theorem idL_get {k j : Nat} (h : j < k) : (idL k)[j]? = some (j : Int) := by simp [idL, h]
theorem swF_map {k i : Nat} (hi : i + 1 < k) : (List.range k).map (swF k i) = swapL (idL k) i := by
  unfold swapL idL
  rw [List.map_map]
  refine List.map_congr_left fun x hx => ?_
  unfold swF
  rw [if_pos ⟨by omega, by omega⟩]
  rfl
theorem then_swap {k : Nat} {now : List Int} (ho : ordB k now = true) {i : Nat} (hi : i + 1 < k) {G : Nat → Int} (hG : Behind now ((List.range k).map (swF k i)) G k) : (List.range k).map G = swapL now i := by
  have hl : now.length = k := by have := (ordB_iff.1 ho).2.2.1; omega
  refine List.ext_getElem? fun j => ?_
  rcases Nat.lt_or_ge j k with hj | hj
  · obtain ⟨v, hv, e⟩ := ord_get ho hj
    have h1 : ((List.range k).map (swF k i))[v]? = some (swF k i v) := by simp [hv]
    unfold swapL
    rw [List.getElem?_map, List.getElem?_map, List.getElem?_range hj, e]
    show some (G j) = some (if (v : Int) = (i : Int) then (i : Int) + 1 else if (v : Int) = (i : Int) + 1 then (i : Int) else (v : Int))
    rw [hG j v _ hj e h1]
    unfold swF
    rw [if_pos ⟨by omega, by omega⟩]
  · unfold swapL
    rw [List.getElem?_eq_none (by simpa using hj), List.getElem?_eq_none (by rw [List.length_map]; omega)]
section
variable {w W : World} {k : Nat} {s : PlS} {u c : Nat} {d lb : Nat} {st : St} {kc : Nat} {calls : Int} {F : Nat → Prop}
theorem byOrd_id {L : Nat → Nd} {n : Nat} (g : NodePlain.Good (k : Int) L n) {f : Int} (hf : isN n f = true) (β : Nat → Bool) : byOrd (fun β => ev L β f) (idL k) β = ev L β f :=
  ev_upto g rfl hf fun x hx => by rw [List.getD_eq_getElem?_getD, idL_get hx]; simp
set_option maxRecDepth 100000
set_option maxHeartbeats 1600000
/-- A move of a diagram, told by where it is true. -/
theorem MkS.movedN (h : MkS w W k s u c d lb st kc calls F) (hk6 : k ≤ 6) (hu : u ≤ 900000) (hc : c ≤ 20000) {l : List Int} (ho : ordB k l = true) {f : Int} {E : (Nat → Bool) → Bool} (hf : Num st f E) {v : Value} (hr : RowF W F v l) :
    Calls Try.prog 21 #[.pointer (some ⟨d, 0, none⟩), .int .i64 f, v] W fun e W' => ∃ x st' kc' calls' F', e = .returned (.tuple #[.int .i64 x, .bool true]) ∧
      Hid (MkS w W' k s (u + 4032) (c + 126) d lb st' kc' calls' F' ∧ Mv W W' F F' ∧ Ext st.L st.n st'.L st'.n ∧ Num st' x (byOrd E l)) := by
  refine (h.moved hk6 hu hc ho hf.is hr.rd hr.nf).mono ?_
  rintro e W' ⟨x, st', kc', calls', F', rfl, hx⟩
  obtain ⟨a1, a2, a3, a4, a5⟩ := hx.out
  exact ⟨x, st', kc', calls', F', rfl, a1, a2, a3, a4, fun β => by rw [a5, hf.ev]; rfl⟩
/-- How many nodes a diagram has, told by where it is true. -/
theorem MkS.sizeN (h : MkS w W k s u c d lb st kc calls F) (hk6 : k ≤ 6) (hu : u ≤ 900000) {σ : List Int → Nat} {E : (Nat → Bool) → Bool} (hσ : ∀ l s, SzS k (byOrd E l) s → σ l = s) {x : Int} {l : List Int} (hx : Num st x (byOrd E l)) :
    Calls Try.prog 48 #[.pointer (some ⟨d, 0, none⟩), .int .i64 x] W fun e W' => e = .returned (.int .i64 (σ l : Nat)) ∧ Keeps (fun _ => False) W W' := by
  have hn := h.n
  refine (qsize_spec h.bd (by omega) (by omega) (by omega) hx.is).mono ?_
  rintro e W' ⟨q, rfl, hq⟩
  rw [hσ l q ⟨_, _, _, h.fine.wf.ok.good, hx.is, hx.ev, hq.out.2⟩]
  exact ⟨rfl, hq.out.1⟩
end
end Go.Proofs.Ytipcgjigkipcpaa
