/-
  between: the walk, of two diagrams that are neither 0 nor 1.
-/
import Derived.Test.YtloidoekmicloaaMV
import Derived.Test.YtloidoekmicloaaMA
import Derived.Deep.RegionHeld3
import Derived.Deep.RegionWith
set_option linter.unusedVariables false
set_option linter.unusedSimpArgs false
set_option linter.unnecessarySimpa false
namespace Go.Proofs.Ytloidoekmicloaa
open Go.ChangeShapes Go.WideShapes Go.ChangeAt Go.RowKit Go.Deep NodePlain
theorem wpAnyH_two {P : Program} {md : Region.Mode} {ops : Array Oper} {Q : Exit → Act → World → Prop} {S : World → Prop} {i j : Nat} {o o2 : Oper} {rest rest2 : List Oper} {fuel : Nat} {listed : Array Bool} {a : Act} {w : World} (hr : Region.ready md ops listed = [i, j]) (hi : ops.toList.drop i = o :: rest) (hj : ops.toList.drop j = o2 :: rest2)
    (h : ∀ K' : Act → World → Prop, Shut (∀ a w, S w → (S w → wpAnyH P md ops Q S fuel (listed.setIfInBounds i true) a w) → K' a w) → if Region.wanted o (yielded ops a.tmps) = true then Oper.wp P o a w K' Q else K' (a.put o.dst undef) w)
    (h2 : ∀ K' : Act → World → Prop, Shut (∀ a w, S w → (S w → wpAnyH P md ops Q S fuel (listed.setIfInBounds j true) a w) → K' a w) → if Region.wanted o2 (yielded ops a.tmps) = true then Oper.wp P o2 a w K' Q else K' (a.put o2.dst undef) w) :
    wpAnyH P md ops Q S (fuel + 1) listed a w :=
  wpAnyH_ready hr (by simp) (AllReadyH.cons (get_at hi) h (AllReadyH.cons (get_at hj) h2 AllReadyH.nil))
section
variable {k d : Nat} {Bg : Int} {low high : (Nat → Bool) → Bool}
def coverObj (u : Value) (r : Int) : Obj := .cells #[u, .int .i64 r] 70 (0, 0)
def pairObj (a b : Int) : Obj := .cells #[.int .i64 a, .int .i64 b] 96 (0, 0)
theorem Blk.cover {W : World} {F : Nat → Prop} {b : Nat} {u : Value} {r : Int} (h : Blk W F b (coverObj u r)) : W.cell? ⟨b, 0, none⟩ = some u ∧ W.cell? ⟨b, 1, none⟩ = some (.int .i64 r) := by
  have h1 := h.1
  unfold coverObj at h1
  constructor <;> (rw [cell_of_heap h1]; rfl)
theorem Blk.pair {W : World} {F : Nat → Prop} {b : Nat} {x y : Int} (h : Blk W F b (pairObj x y)) : W.cell? ⟨b, 0, none⟩ = some (.int .i64 x) ∧ W.cell? ⟨b, 1, none⟩ = some (.int .i64 y) := by
  have h1 := h.1
  unfold pairObj at h1
  constructor <;> (rw [cell_of_heap h1]; rfl)
theorem blk_new {W : World} {F : Nat → Prop} (hF : ∀ x, F x → x < W.heap.size) (o : Obj) : Blk (W.alloc o) F W.heap.size o := ⟨(MapKept.heap_alloc W o).1, fun h => by have := hF _ h; omega⟩
theorem DgTo.lt {z : Nat} {W W' : World} {B : Int} {st st' : St} {kc kc' : Nat} {calls' : Int} {F F' : Nat → Prop} {n c : Nat} (h : DgTo z W k d B st kc F n c st' kc' calls' F' W') : ∀ x, F' x → x < W'.heap.size := h.dg.bd.lt
theorem DgTo.store {z : Nat} {W W1 W2 : World} {B : Int} {st st1 : St} {kc kc1 : Nat} {calls1 : Int} {F F1 : Nat → Prop} {n c : Nat} (h : DgTo z W k d B st kc F n c st1 kc1 calls1 F1 W1) {S : Nat → Prop} (hk : Keeps S W1 W2) (hs : ∀ x, S x → W.heap.size ≤ x ∧ ¬ F1 x) : DgTo z W k d B st kc F n c st1 kc1 calls1 F1 W2 :=
  ⟨⟨h.dg.bd.keeps hk (fun x hx hS => (hs x hS).2 hx), h.dg.fine, h.dg.c0, h.dg.c1, h.dg.fw⟩, ⟨h.mv.keeps.trans_new hk (fun x hx hS => by have := (hs x hS).1; omega), h.mv.fp⟩, h.ext, h.hn, h.hc⟩
theorem Cb.ne {z : Nat} {W : World} {F : Nat → Prop} {v : Value} {L : List (List Int)} {bs : List Nat} (h : Cb z W F k v L bs) {b : Nat} {o : Array Value} {t : TypeId} (hb : W.heap[b]? = some (.cells o t (0, 0))) (h1 : t ≠ 27) (h2 : t ≠ 3) : ¬ cubFp v bs b := by
  rintro (hx | hx)
  · obtain ⟨_, ⟨rfl, _⟩ | ⟨g, cap, cur, rfl, hg, hh, _⟩⟩ := h.1.own
    · cases hx
    · simp only [Value.ownBlock, Option.some.injEq] at hx
      subst hx
      rw [hh] at hb
      simp only [Option.some.injEq, Obj.cells.injEq] at hb
      exact h1 hb.2.1.symm
  · obtain ⟨i, hi⟩ := List.getElem?_of_mem hx
    have hl : i < L.length := by rw [← h.1.len]; exact (List.getElem?_eq_some_iff.1 hi).1
    have := h.1.blk i b _ hi (List.getElem?_eq_getElem hl)
    unfold CubeBlk at this
    rw [this] at hb
    simp only [Option.some.injEq, Obj.cells.injEq] at hb
    exact h2 hb.2.1.symm
/-- What stands where a cover was put into a variable. -/
def BetOut (z : Nat) (w9 : World) (k d : Nat) (B : Int) (st : St) (kc : Nat) (F : Nat → Prop) (n c : Nat) (st2 : St) (kc2 : Nat) (calls2 : Int) (F2 : Nat → Prop) (wx : World) (f : (Nat → Bool) → Bool) (v : Value) (r : Int) (L : List (List Int)) (bs : List Nat) (ab : Nat) : Prop :=
  DgTo z w9 k d B st kc F n c st2 kc2 calls2 F2 wx ∧ Num st2 r f ∧ Cb w9.heap.size wx F2 k v L bs ∧ Blk wx F2 ab (coverObj v r) ∧ w9.heap.size ≤ ab
theorem bet_fin {z : Nat} {w9 w : World} {B : Int} {st st2 : St} {kc kc2 : Nat} {calls2 : Int} {F F2 : Nat → Prop} {n c : Nat} {f : (Nat → Bool) → Bool} {v : Value} {r : Int} {L : List (List Int)} {bs : List Nat} {ab : Nat} (t : DgTo z w9 k d B st kc F n c st2 kc2 calls2 F2 w) (hn : Num st2 r f) (hc : Cb w9.heap.size w F2 k v L bs) (hb : Blk w F2 ab (coverObj (.slice none 0 0) 0)) (hge : w9.heap.size ≤ ab) :
    BetOut z w9 k d B st kc F n c st2 kc2 calls2 F2 ((w.setCell ⟨ab, 0, none⟩ v).setCell ⟨ab, 1, none⟩ (.int .i64 r)) f v r L bs ab := by
  have hk : Keeps (fun x => x = ab) w ((w.setCell ⟨ab, 0, none⟩ v).setCell ⟨ab, 1, none⟩ (.int .i64 r)) := (Keeps.setCell (S := fun x => x = ab) (Keeps.refl _ w) (p := ⟨ab, 0, none⟩) (fun _ => rfl) _).trans (Keeps.setCell (S := fun x => x = ab) (Keeps.refl _ _) (p := ⟨ab, 1, none⟩) (fun _ => rfl) _)
  have hne := hc.ne hb.1 (by decide) (by decide)
  refine ⟨t.store hk (fun x e => by subst e; exact ⟨hge, hb.2⟩), hn, ⟨hc.1.keeps hk (fun x hx e => hne (e ▸ hx)), hc.2⟩, ⟨?_, hb.2⟩, hge⟩
  have h0 := hb.1
  unfold coverObj at h0 ⊢
  rw [heap_set (heap_set h0 0 v) 1 _]
  rfl
/-- A row of single values of the program's own, that is no maker's. -/
def OwnH (z : Nat) (W : World) (F : Nat → Prop) (v : Value) (n : Nat) (H : List Value) : Prop := W.ownsRow z 27 1 v n H ∧ ∀ x, v.ownBlock = some x → ¬ F x
theorem OwnH.mv {z : Nat} {W W' : World} {F F' : Nat → Prop} {v : Value} {n : Nat} {H : List Value} (h : OwnH z W F v n H) (m : Mv W W' F F') : OwnH z W' F' v n H :=
  ⟨ownsRow_keeps' h.1 m.keeps h.2, fun x hx hf => (m.fp x hf).elim (h.2 x hx) (fun h2 => by have := (h.1.lt x hx).2; omega)⟩
/-- Where the three covers stand, and the maker, behind z. -/
structure B13 (z : Nat) (W : World) (k d : Nat) (B : Int) (st : St) (kc : Nat) (F : Nat → Prop) (n c : Nat) (rb ab eb cb zA zB zC : Nat) (vA vB vC : Value) (rA rB rC : Int) (LA LB LC : List (List Int)) (bsA bsB bsC : List Nat) (st1 : St) (kc1 : Nat) (calls1 : Int) (F1 : Nat → Prop) (W1 : World) : Prop where
  gt : DgTo z W k d B st kc F n c st1 kc1 calls1 F1 W1
  kr : Blk W1 F1 rb (coverObj (.slice none 0 0) 0)
  ka : Blk W1 F1 ab (coverObj vA rA)
  ke : Blk W1 F1 eb (coverObj vB rB)
  kb : Blk W1 F1 cb (coverObj vC rC)
  ca : Cb zA W1 F1 k vA LA bsA
  cB : Cb zB W1 F1 k vB LB bsB
  cC : Cb zC W1 F1 k vC LC bsC
section
variable {z : Nat} {W W1 W2 : World} {B : Int} {st st1 st2 : St} {kc kc1 kc2 : Nat} {calls1 calls2 : Int} {F F1 F2 : Nat → Prop} {n c n' c' rb ab eb cb zA zB zC : Nat} {vA vB vC : Value} {rA rB rC : Int} {LA LB LC : List (List Int)} {bsA bsB bsC : List Nat}
theorem B13.mv (h : B13 z W k d B st kc F n c rb ab eb cb zA zB zC vA vB vC rA rB rC LA LB LC bsA bsB bsC st1 kc1 calls1 F1 W1) (t : DgTo z W1 k d B st1 kc1 F1 n' c' st2 kc2 calls2 F2 W2) : B13 z W k d B st kc F (n + n') (c + c') rb ab eb cb zA zB zC vA vB vC rA rB rC LA LB LC bsA bsB bsC st2 kc2 calls2 F2 W2 :=
  ⟨h.gt.trans t, h.kr.mv t.mv, h.ka.mv t.mv, h.ke.mv t.mv, h.kb.mv t.mv, h.ca.mv t.mv, h.cB.mv t.mv, h.cC.mv t.mv⟩
theorem B13.quiet (h : B13 z W k d B st kc F n c rb ab eb cb zA zB zC vA vB vC rA rB rC LA LB LC bsA bsB bsC st1 kc1 calls1 F1 W1) (hk : Keeps (fun _ => False) W1 W2) : B13 z W k d B st kc F n c rb ab eb cb zA zB zC vA vB vC rA rB rC LA LB LC bsA bsB bsC st1 kc1 calls1 F1 W2 :=
  ⟨h.gt.quiet hk, h.kr.quiet hk, h.ka.quiet hk, h.ke.quiet hk, h.kb.quiet hk, h.ca.quiet hk, h.cB.quiet hk, h.cC.quiet hk⟩
theorem Blk.put {b : Nat} {u : Value} {r : Int} {v : Value} {L : List (List Int)} {bs : List Nat} (h : Blk W1 F1 b (coverObj u r)) (hc : Cb z W1 F1 k v L bs) (hk : Keeps (fun x => x ∈ bs) W1 W2) : Blk W2 F1 b (coverObj u r) :=
  ⟨(hk.block b (lt_of_heap h.1) (fun hx => hc.ne h.1 (by decide) (by decide) (.inr hx))).trans h.1, h.2⟩
theorem B13.withA (h : B13 z W k d B st kc F n c rb ab eb cb zA zB zC vA vB vC rA rB rC LA LB LC bsA bsB bsC st1 kc1 calls1 F1 W1) (hW : W.heap.size ≤ zA) {LA' : List (List Int)} (hn : CubesAt zA W2 k vA LA' bsA) (hk : Keeps (fun x => x ∈ bsA) W1 W2) (d1 : ∀ x, x ∈ bsA → ¬ cubFp vB bsB x) (d2 : ∀ x, x ∈ bsA → ¬ cubFp vC bsC x) :
    B13 z W k d B st kc F n c rb ab eb cb zA zB zC vA vB vC rA rB rC LA' LB LC bsA bsB bsC st1 kc1 calls1 F1 W2 :=
  ⟨h.gt.store hk (fun x hx => ⟨Nat.le_trans hW (h.ca.1.ge x hx), h.ca.2 x (.inr hx)⟩), h.kr.put h.ca hk, h.ka.put h.ca hk, h.ke.put h.ca hk, h.kb.put h.ca hk, ⟨hn, h.ca.2⟩, ⟨h.cB.1.keeps hk (fun x hx hb => d1 x hb hx), h.cB.2⟩, ⟨h.cC.1.keeps hk (fun x hx hb => d2 x hb hx), h.cC.2⟩⟩
theorem B13.withB (h : B13 z W k d B st kc F n c rb ab eb cb zA zB zC vA vB vC rA rB rC LA LB LC bsA bsB bsC st1 kc1 calls1 F1 W1) (hW : W.heap.size ≤ zB) {LB' : List (List Int)} (hn : CubesAt zB W2 k vB LB' bsB) (hk : Keeps (fun x => x ∈ bsB) W1 W2) (d1 : ∀ x, x ∈ bsB → ¬ cubFp vA bsA x) (d2 : ∀ x, x ∈ bsB → ¬ cubFp vC bsC x) :
    B13 z W k d B st kc F n c rb ab eb cb zA zB zC vA vB vC rA rB rC LA LB' LC bsA bsB bsC st1 kc1 calls1 F1 W2 :=
  ⟨h.gt.store hk (fun x hx => ⟨Nat.le_trans hW (h.cB.1.ge x hx), h.cB.2 x (.inr hx)⟩), h.kr.put h.cB hk, h.ka.put h.cB hk, h.ke.put h.cB hk, h.kb.put h.cB hk, ⟨h.ca.1.keeps hk (fun x hx hb => d1 x hb hx), h.ca.2⟩, ⟨hn, h.cB.2⟩, ⟨h.cC.1.keeps hk (fun x hx hb => d2 x hb hx), h.cC.2⟩⟩
theorem hdrs_append (k : Nat) (a b : List Nat) : hdrs k (a ++ b) = hdrs k a ++ hdrs k b := by unfold hdrs; simp
theorem hdrs_len (k : Nat) (a : List Nat) : (hdrs k a).length = a.length := by unfold hdrs; simp
/-- The three together, in a row of their own. -/
theorem B13.all (h : B13 z W k d B st kc F n c rb ab eb cb zA zB zC vA vB vC rA rB rC LA LB LC bsA bsB bsC st1 kc1 calls1 F1 W1) {z4 nn : Nat} {v4 : Value} (ho : OwnH z4 W1 F1 v4 nn (hdrs k bsA ++ hdrs k bsB ++ hdrs k bsC)) {z5 : Nat} (zA' : z5 ≤ zA) (zB' : z5 ≤ zB) (zC' : z5 ≤ zC) (h5 : z5 ≤ z4) (d1 : ∀ x, x ∈ bsA → ¬ cubFp vB bsB x) (d2 : ∀ x, x ∈ bsA → ¬ cubFp vC bsC x) (d3 : ∀ x, x ∈ bsB → ¬ cubFp vC bsC x) : Cb z5 W1 F1 k v4 (LA ++ LB ++ LC) (bsA ++ bsB ++ bsC) := by
  have hl : nn = (bsA ++ bsB ++ bsC).length := by
    have := ho.1.1
    simp only [List.length_append, hdrs_len, Nat.mul_one] at this ⊢
    omega
  have la := h.ca.1.len
  have lb := h.cB.1.len
  have lc := h.cC.1.len
  refine ⟨⟨?_, by simp only [List.length_append]; omega, fun i g c hg hc => ?_, ?_, fun g hg => ?_, fun c hc => ?_⟩, fun x hx => ?_⟩
  · rw [hdrs_append, hdrs_append, ← hl]
    obtain ⟨q1, q2 | ⟨g, cap, cur, e, hg, r⟩⟩ := ho.1
    · exact ⟨q1, .inl q2⟩
    · exact ⟨q1, .inr ⟨g, cap, cur, e, Nat.le_trans h5 hg, r⟩⟩
  · rcases Nat.lt_or_ge i bsA.length with e1 | e1
    · rw [List.append_assoc, List.getElem?_append_left e1] at hg
      rw [List.append_assoc, List.getElem?_append_left (by omega)] at hc
      exact h.ca.1.blk i g c hg hc
    · rcases Nat.lt_or_ge i (bsA.length + bsB.length) with e2 | e2
      · rw [List.getElem?_append_left (by simp; omega), List.getElem?_append_right e1] at hg
        rw [List.getElem?_append_left (by simp; omega), List.getElem?_append_right (by omega)] at hc
        rw [← la] at hc
        exact h.cB.1.blk _ g c hg hc
      · rw [List.getElem?_append_right (by simp; omega), List.length_append] at hg
        rw [List.getElem?_append_right (by simp; omega), List.length_append, ← la, ← lb] at hc
        exact h.cC.1.blk _ g c hg hc
  · rw [List.nodup_append, List.nodup_append]
    refine ⟨⟨h.ca.1.nd, h.cB.1.nd, fun a ha b hb e => d1 a ha (.inr (e ▸ hb))⟩, h.cC.1.nd, fun a ha b hb e => ?_⟩
    rcases List.mem_append.1 ha with ha | ha
    · exact d2 a ha (.inr (e ▸ hb))
    · exact d3 a ha (.inr (e ▸ hb))
  · rcases List.mem_append.1 hg with hg | hg
    · rcases List.mem_append.1 hg with hg | hg
      · exact Nat.le_trans zA' (h.ca.1.ge g hg)
      · exact Nat.le_trans zB' (h.cB.1.ge g hg)
    · exact Nat.le_trans zC' (h.cC.1.ge g hg)
  · rcases List.mem_append.1 hc with hc | hc
    · rcases List.mem_append.1 hc with hc | hc
      · exact h.ca.1.ck c hc
      · exact h.cB.1.ck c hc
    · exact h.cC.1.ck c hc
  · rcases hx with hx | hx
    · exact ho.2 x hx
    · rcases List.mem_append.1 hx with hx | hx
      · rcases List.mem_append.1 hx with hx | hx
        · exact h.ca.2 x (.inr hx)
        · exact h.cB.2 x (.inr hx)
      · exact h.cC.2 x (.inr hx)
end
set_option maxRecDepth 100000
set_option maxHeartbeats 6400000
theorem bet_step (hk6 : k ≤ 6) {v : Nat} (hv : v < k) {β0 β1 : Nat → Bool} (h0 : low β0 = true) (h1 : high β1 = false) (hind : ∀ w, w < v → Ind low w ∧ Ind high w) (hdep : ¬ (Ind low v ∧ Ind high v)) {A B C : List (List Int)} {fa fb fc : (Nat → Bool) → Bool} {na nb nc ca cb cc : Nat}
    (ba : Bt k (fun β => !half high v true β && half low v false β) (half high v false) A fa na ca)
    (bb : Bt k (fun β => !half high v false β && half low v true β) (half high v true) B fb nb cb)
    (bc : Bt k (fun β => (!fa β && half low v false β) || (!fb β && half low v true β)) (fun β => half high v false β && half high v true β) C fc nc cc)
    (iA : BetIs k d Bg (fun β => !half high v true β && half low v false β) (half high v false) A fa na ca)
    (iB : BetIs k d Bg (fun β => !half high v false β && half low v true β) (half high v true) B fb nb cb)
    (iC : BetIs k d Bg (fun β => (!fa β && half low v false β) || (!fb β && half low v true β)) (fun β => half high v false β && half high v true β) C fc nc cc) :
    BetIs k d Bg low high (A.map (fun c => c.set v 0) ++ B.map (fun c => c.set v 1) ++ C) (fun β => (if β v then fb β else fa β) || fc β) (na + nb + nc + 8 * 2 ^ (k - v)) (ca + cb + cc + 12) := by
  intro z W st kc calls F x y h hz hle hx hy hkc room
  have gd := h.good
  obtain ⟨m1, hm1⟩ : ∃ m1, k - v - 1 = m1 := ⟨_, rfl⟩
  have hpow : 2 ^ (k - v) = 2 * 2 ^ m1 := by rw [show k - v = m1 + 1 by omega, Nat.pow_succ]; omega
  have hp1 : 1 ≤ 2 ^ m1 := Nat.one_le_two_pow
  have hpk : 2 ^ (k - v) ≤ 2 ^ k := Nat.pow_le_pow_right (by omega) (by omega)
  have hn8 : st.n ≤ 100000000 := by have := h.fine.wf.n; omega
  have hx0 : ¬ x = 0 := fun e => by
    subst e
    have := hx.ev β0
    rw [ev0, h0] at this
    cases this
  have hy1 : ¬ y = 1 := fun e => by
    subst e
    have := hy.ev β1
    rw [ev1, h1] at this
    cases this
  have hx0b : (x == 0) = false := by simp [hx0]
  have hy1b : (y == 1) = false := by simp [hy1]
  have vx := var_ge gd hx (q := v) (by omega) (fun w hw => (hind w hw).1)
  have vy := var_ge gd hy (q := v) (by omega) (fun w hw => (hind w hw).2)
  have hmin : min (varN (k : Int) st.L st.n x) (varN (k : Int) st.L st.n y) = (v : Int) := by
    by_cases e : (v : Int) < varN (k : Int) st.L st.n x ∧ (v : Int) < varN (k : Int) st.L st.n y
    · exact absurd ⟨var_dep gd hx e.1, var_dep gd hy e.2⟩ hdep
    · omega
  have hns := h.ns (by have : 0 ≤ 2 ^ k := Nat.zero_le _; omega)
  have hFl := h.bd.lt
  have HDG := Lib.hid h
  have HSP : Hid (∀ W', Keeps (fun _ => False) W W' → Calls Try.prog 38 #[.pointer (some ⟨d, 0, none⟩)] W' fun e W2 => e = .returned (.bool false) ∧ W' = W2) := fun W' hk => by
    have := bspent_spec (h.bd.quiet hk)
    rw [hns] at this
    exact this
  have HFI : Hid (∀ W', Keeps (fun _ => False) W W' → Calls Try.prog 54 #[.pointer (some ⟨d, 0, none⟩), .slice (some ⟨W'.heap.size, 0, none⟩) 2 2] (W'.alloc (.cells #[.int .i64 x, .int .i64 y] 3)) fun e W2 => e = .returned (.int .i64 v) ∧ Hid (Keeps (fun _ => False) W' W2)) := fun W' hk => by
    have hk2 : Keeps (fun _ => False) W' (W'.alloc (.cells #[.int .i64 x, .int .i64 y] 3)) := (Keeps.refl _ _).alloc _
    have := cfirst_spec (h.bd.quiet (hk.trans hk2)) hn8 (by omega) hx.is hy.is (MapKept.heap_alloc W' _).1
    rw [hmin] at this
    exact this.mono fun e W2 ⟨h1, h2⟩ => ⟨h1, hk2.trans h2.out⟩
  have HHX : Hid (∀ W' so, Keeps (fun _ => False) W W' → Calls Try.prog 55 #[.pointer (some ⟨d, 0, none⟩), .int .i64 x, .int .i64 v, .bool so] W' fun e W2 => ∃ r, e = .returned (.int .i64 r) ∧ Hid (Num st r (half low v so) ∧ Late (k : Int) st m1 r) ∧ Hid (Keeps (fun _ => False) W' W2)) := fun W' so hk => by
    rw [← hm1]; exact chalf_spec (h.bd.quiet hk) hn8 hx vx hv (by omega) so
  have HHY : Hid (∀ W' so, Keeps (fun _ => False) W W' → Calls Try.prog 55 #[.pointer (some ⟨d, 0, none⟩), .int .i64 y, .int .i64 v, .bool so] W' fun e W2 => ∃ r, e = .returned (.int .i64 r) ∧ Hid (Num st r (half high v so) ∧ Late (k : Int) st m1 r) ∧ Hid (Keeps (fun _ => False) W' W2)) := fun W' so hk => by
    rw [← hm1]; exact chalf_spec (h.bd.quiet hk) hn8 hy vy hv (by omega) so
  have HFL := Lib.hid hFl
  have HGD := Lib.hid gd
  have k1 : Keeps (fun _ => False) W (W.alloc (coverObj (.slice none 0 0) 0)) := (Keeps.refl _ _).alloc _
  have HK1 := Lib.hid k1
  have HR1 := Lib.hid (blk_new hFl (coverObj (.slice none 0 0) 0))
  unfold coverObj at HK1 HR1
  have HIN := Lib.hid (And.intro hle (And.intro hind hdep))
  have HRM := Lib.hid room
  clear h gd hx hy hx0 hy1 vx vy hmin hns hFl k1 hle hind hdep h0 h1 room hn8
  go_enter Try.func37, Try.ntmps37
  go_upto_region 1 with fail
  generalize (W.alloc (.cells #[.slice none 0 0, .int .i64 0] 70)) = w1 at *
  go_upto_region 5 with (go_at_call 38; refine (HSP.out _ HK1.out).mono ?_; rintro e w' ⟨rfl, rfl⟩)
  clear HSP
  go_upto_region 6 with (go_at_call 54; refine (HFI.out _ HK1.out).mono ?_; rintro e w3 ⟨rfl, hk3⟩)
  have HK3 := Lib.hid (HK1.out.trans hk3.out)
  have HR3 := Lib.hid (HR1.out.quiet hk3.out)
  clear HFI HK1 HR1 hk3
  go_wp2_with fail
  refine (HHX.out _ false HK3.out).mono ?_
  rintro e w4 ⟨l0, rfl, hl0, hk4⟩
  have HK4 := Lib.hid (HK3.out.trans hk4.out)
  have HR4 := Lib.hid (HR3.out.quiet hk4.out)
  clear HK3 HR3 hk4
  go_wp2_with fail
  refine (HHX.out _ true HK4.out).mono ?_
  rintro e w5 ⟨l1, rfl, hl1, hk5⟩
  have hk6x : Keeps (fun _ => False) w5 (w5.alloc (pairObj l0 l1)) := (Keeps.refl _ _).alloc _
  have HK6 := Lib.hid ((HK4.out.trans hk5.out).trans hk6x)
  have HR6 := Lib.hid ((HR4.out.quiet hk5.out).quiet hk6x)
  have HL6 := Lib.hid (blk_new (F := F) (fun x hx => Nat.lt_of_lt_of_le (HFL.out x hx) (HK4.out.trans hk5.out).size) (pairObj l0 l1) (W := w5))
  clear HK4 HR4 hk5 HHX hk6x
  obtain ⟨lb, hlb⟩ : ∃ lb, w5.heap.size = lb := ⟨_, rfl⟩
  go_upto_region 7 with fail
  unfold pairObj at HK6 HR6 HL6
  rw [hlb] at HL6
  (try rw [hlb])
  obtain ⟨w6, hw6⟩ : ∃ w6, w5.alloc (.cells #[.int .i64 l0, .int .i64 l1] 96) = w6 := ⟨_, rfl⟩
  rw [hw6] at HK6 HR6 HL6 ⊢
  clear hw6 hlb
  go_wp2_with fail
  refine (HHY.out _ false HK6.out).mono ?_
  rintro e w7 ⟨g0, rfl, hg0, hk7⟩
  have HK7 := Lib.hid (HK6.out.trans hk7.out)
  have HR7 := Lib.hid (HR6.out.quiet hk7.out)
  have HL7 := Lib.hid (HL6.out.quiet hk7.out)
  clear HK6 HR6 HL6 hk7
  go_wp2_with fail
  refine (HHY.out _ true HK7.out).mono ?_
  rintro e w8 ⟨g1, rfl, hg1, hk8⟩
  have hk9x : Keeps (fun _ => False) w8 (w8.alloc (pairObj g0 g1)) := (Keeps.refl _ _).alloc _
  have HK9 := Lib.hid ((HK7.out.trans hk8.out).trans hk9x)
  have HR9 := Lib.hid ((HR7.out.quiet hk8.out).quiet hk9x)
  have HL9 := Lib.hid ((HL7.out.quiet hk8.out).quiet hk9x)
  have HG9 := Lib.hid (blk_new (F := F) (fun x hx => Nat.lt_of_lt_of_le (HFL.out x hx) (HK7.out.trans hk8.out).size) (pairObj g0 g1) (W := w8))
  clear HK7 HR7 HL7 hk8 HHY hk9x
  obtain ⟨hb, hhb⟩ : ∃ hb, w8.heap.size = hb := ⟨_, rfl⟩
  go_upto_region 8 with fail
  unfold pairObj at HK9 HR9 HL9 HG9
  rw [hhb] at HG9
  (try rw [hhb])
  obtain ⟨w9, hw9⟩ : ∃ w9, w8.alloc (.cells #[.int .i64 g0, .int .i64 g1] 96) = w9 := ⟨_, rfl⟩
  rw [hw9] at HK9 HR9 HL9 HG9 ⊢
  clear hw9 hhb
  -- stage 9
  have HT9 : Hid (DgTo z W k d Bg st kc F 0 0 st kc calls F w9) := (DgTo.refl HDG.out).quiet HK9.out
  have HZ9 : Hid (z ≤ w9.heap.size ∧ W.heap.size ≤ w9.heap.size) := ⟨Nat.le_trans hz HK9.out.size, HK9.out.size⟩
  clear HDG HK9 HFL
  -- region 8
  have HS8 : Hid (∀ {n c : Nat} {st1 : St} {kc1 : Nat} {calls1 : Int} {F1 : Nat → Prop} {W1 : World}, Hid (DgTo z w9 k d Bg st kc F n c st1 kc1 calls1 F1 W1) → (fun w' : World => w'.cell? ⟨lb, 0, none⟩ = some (.int .i64 l0) ∧ w'.cell? ⟨lb, 1, none⟩ = some (.int .i64 l1) ∧ w'.cell? ⟨hb, 0, none⟩ = some (.int .i64 g0) ∧ w'.cell? ⟨hb, 1, none⟩ = some (.int .i64 g1)) W1) := fun t =>
    ⟨((HL9.out : Blk w9 F lb (pairObj l0 l1)).mv t.out.mv).pair.1, ((HL9.out : Blk w9 F lb (pairObj l0 l1)).mv t.out.mv).pair.2, ((HG9.out : Blk w9 F hb (pairObj g0 g1)).mv t.out.mv).pair.1, ((HG9.out : Blk w9 F hb (pairObj g0 g1)).mv t.out.mv).pair.2⟩
  have HA1 : Hid (∀ W1, Hid (DgTo z w9 k d Bg st kc F 0 0 st kc calls F W1) → Calls Try.prog 35 #[.pointer (some ⟨d, 0, none⟩), .int .i64 g1, .int .i64 l0] W1 fun e W' => ∃ r st1 kc1 calls1 F1, e = .returned (.int .i64 r) ∧ Hid (DgTo z w9 k d Bg st kc F (2 ^ m1) 1 st1 kc1 calls1 F1 W') ∧ Hid (Num st1 r (fun β => !half high v true β && half low v false β)) ∧ Hid (Mv W1 W' F F1)) := fun W1 t => by
    refine (t.out.dg.less (Nat.le_trans HZ9.out.1 t.out.mv.keeps.size) (by omega) (by omega) (by have := HRM.out; omega) hg1.out.1 hl0.out.1 hg1.out.2 hl0.out.2).mono ?_
    rintro e W' ⟨r, st1, kc1, calls1, F1, rfl, q⟩
    exact ⟨r, st1, kc1, calls1, F1, rfl, (t.out.trans q.out.1).more (by omega) (by omega), q.out.2.1, q.out.1.mv⟩
  have HA2 : Hid (∀ r st1 kc1 calls1 F1 W1, Hid (DgTo z w9 k d Bg st kc F (2 ^ m1) 1 st1 kc1 calls1 F1 W1) → Hid (Num st1 r (fun β => !half high v true β && half low v false β)) → Calls Try.prog 37 #[.pointer (some ⟨d, 0, none⟩), .int .i64 r, .int .i64 g0] W1 fun e W' => ∃ ao cap rA bs st2 kc2 calls2 F2, e = .returned (.agg #[.slice ao A.length cap, .int .i64 rA]) ∧ Hid (DgTo z w9 k d Bg st kc F (2 ^ m1 + na) (1 + ca) st2 kc2 calls2 F2 W') ∧ Hid (Num st2 rA fa ∧ Cb w9.heap.size W' F2 k (.slice ao A.length cap) A bs) ∧ Hid (Mv W1 W' F1 F2)) := fun r st1 kc1 calls1 F1 W1 t hr => by
    have hz1 : w9.heap.size ≤ W1.heap.size := t.out.mv.keeps.size
    have e1 := t.out.hn
    have e2 := t.out.hc
    refine (iA z W1 st1 kc1 calls1 F1 r g0 t.out.dg (Nat.le_trans HZ9.out.1 hz1) (fun β hb => by rw [Bool.and_eq_true] at hb; exact HIN.out.1 _ hb.2) hr.out (hg0.out.1.ext t.out.ext HGD.out) (by omega) (by have := HRM.out; omega)).mono ?_
    rintro e W' ⟨ao, cap, rA, bs, st2, kc2, calls2, F2, rfl, q⟩
    exact ⟨ao, cap, rA, bs, st2, kc2, calls2, F2, rfl, t.out.trans q.out.1, ⟨q.out.2.1, q.out.2.2.1.mono hz1, q.out.2.2.2⟩, q.out.1.mv⟩
  have HT0 : Hid (DgTo z w9 k d Bg st kc F 0 0 st kc calls F w9.drew) := (DgTo.refl HT9.out.dg).quiet ((Keeps.refl _ _).drew)
  have hS0 := HS8.out HT0
  obtain ⟨nA, hnA⟩ : ∃ n, A.length = n := ⟨_, rfl⟩
  have HNA := Lib.hid hnA
  rw [hnA] at HA2
  clear hnA
  go_cut [10] (fun p wx => ∃ (ab : Nat) (ao : Option Addr) (cap : Nat) (rA : Int) (bs : List Nat) (st2 : St) (kc2 : Nat) (calls2 : Int) (F2 : Nat → Prop), p = .pointer (some ⟨ab, 0, none⟩) ∧ Hid (BetOut z w9 k d Bg st kc F (2 ^ m1 + na) (1 + ca) st2 kc2 calls2 F2 wx fa (.slice ao nA cap) rA A bs ab))
  case first =>
    clear iA iB iC ba bb bc
    refine wp_region_noPanic ?_
    refine wp_region_held_drew (S := (fun w' : World => w'.cell? ⟨lb, 0, none⟩ = some (.int .i64 l0) ∧ w'.cell? ⟨lb, 1, none⟩ = some (.int .i64 l1) ∧ w'.cell? ⟨hb, 0, none⟩ = some (.int .i64 g0) ∧ w'.cell? ⟨hb, 1, none⟩ = some (.int .i64 g1))) (by kernel_rfl) hS0 (fun hHeld => ?_)
    refine wpAnyH_take_at (i := 0) (v := ?v09k) rfl (by kernel_rfl) (by kernel_rfl) (by kernel_rfl) (fun _ _ _ h => h) (Or.inl ⟨by rfl, ?y09k⟩) hHeld ?r09k
    case y09k => (intro w hSw; (try dsimp only at hSw); go_simp; first | done | with_reducible rfl)
    (try simp only [Act.put, List.setIfInBounds_toArray, List.set_cons_zero, List.set_cons_succ])
    refine wpAnyH_take_at (i := 1) (v := ?v19k) rfl (by kernel_rfl) (by kernel_rfl) (by kernel_rfl) (fun _ _ _ h => h) (Or.inl ⟨by rfl, ?y19k⟩) hHeld ?r19k
    case y19k => (intro w hSw; (try dsimp only at hSw); go_simp; first | done | with_reducible rfl)
    (try simp only [Act.put, List.setIfInBounds_toArray, List.set_cons_zero, List.set_cons_succ])
    refine wpAnyH_take_at (i := 2) (v := ?v29k) rfl (by kernel_rfl) (by kernel_rfl) (by kernel_rfl) (fun _ _ _ h => h) (Or.inl ⟨by rfl, ?y29k⟩) hHeld ?r29k
    case y29k => (intro w hSw; (try dsimp only at hSw); go_simp; first | done | with_reducible rfl)
    (try simp only [Act.put, List.setIfInBounds_toArray, List.set_cons_zero, List.set_cons_succ])
    refine wpAnyH_take_at (i := 3) (v := ?v39k) rfl (by kernel_rfl) (by kernel_rfl) (by kernel_rfl) (fun _ _ _ h => h) (Or.inl ⟨by rfl, ?y39k⟩) hHeld ?r39k
    case y39k => (intro w hSw; (try dsimp only at hSw); go_simp; first | done | with_reducible rfl)
    (try simp only [Act.put, List.setIfInBounds_toArray, List.set_cons_zero, List.set_cons_succ])
    refine wpAnyH_take_at (i := 4) (v := ?v49k) rfl (by kernel_rfl) (by kernel_rfl) (by kernel_rfl) (fun _ _ _ h => h) (Or.inl ⟨by rfl, ?y49k⟩) hHeld ?r49k
    case y49k => (intro w hSw; (try dsimp only at hSw); go_simp; first | done | with_reducible rfl)
    (try simp only [Act.put, List.setIfInBounds_toArray, List.set_cons_zero, List.set_cons_succ])
    refine wpAnyH_take_at (i := 5) (v := ?v59k) rfl (by kernel_rfl) (by kernel_rfl) (by kernel_rfl) (fun _ _ _ h => h) (Or.inl ⟨by rfl, ?y59k⟩) hHeld ?r59k
    case y59k => (intro w hSw; (try dsimp only at hSw); go_simp; first | done | with_reducible rfl)
    (try simp only [Act.put, List.setIfInBounds_toArray, List.set_cons_zero, List.set_cons_succ])
    refine wpAnyH_take_at (i := 7) (v := ?v79k) rfl (by kernel_rfl) (by kernel_rfl) (by kernel_rfl) (fun _ _ _ h => h) (Or.inl ⟨by rfl, ?y79k⟩) hHeld ?r79k
    case y79k => (intro w hSw; (try dsimp only at hSw); go_simp; first | done | with_reducible rfl)
    (try simp only [Act.put, List.setIfInBounds_toArray, List.set_cons_zero, List.set_cons_succ])
    refine wpAnyH_take_at (i := 8) (v := ?v89k) rfl (by kernel_rfl) (by kernel_rfl) (by kernel_rfl) (fun _ _ _ h => h) (Or.inl ⟨by rfl, ?y89k⟩) hHeld ?r89k
    case y89k => (intro w hSw; (try dsimp only at hSw); go_simp; first | done | with_reducible rfl)
    (try simp only [Act.put, List.setIfInBounds_toArray, List.set_cons_zero, List.set_cons_succ])
    obtain ⟨wD9, hwD9⟩ : ∃ x, w9.drew = x := ⟨_, rfl⟩
    simp only [hwD9] at hHeld HT0 ⊢
    clear hwD9 hS0
    refine wpAnyH_two (i := 6) (j := 10) (by kernel_rfl) rfl rfl (fun KK hK => ?p6X9) (fun KK hK => ?p10X9)
    case p6X9 =>
      go_simp
      refine (HA1.out _ HT0).mono ?_
      rintro e wA9a ⟨r19a, st19a, kc19a, calls19a, F19a, rfl, ht19a, hn19a, hm19a⟩
      go_simp
      refine hK.out _ _ ?sL9a (fun hHeld => ?_)
      case sL9a => exact HS8.out ht19a
      clear hK KK
      (try simp only [Act.put, List.setIfInBounds_toArray, List.set_cons_zero, List.set_cons_succ])
      refine wpAnyH_two (i := 9) (j := 10) (by kernel_rfl) rfl rfl (fun KK hK => ?p9Y9) (fun KK hK => ?p10Y9)
      case p9Y9 =>
        go_simp
        refine (HA2.out _ _ _ _ _ _ ht19a hn19a).mono ?_
        rintro e wB9b ⟨ao9b, cap9b, rA9b, bs9b, st29b, kc29b, calls29b, F29b, rfl, ht29b, hn29b, hm29b⟩
        go_simp
        refine hK.out _ _ ?sB9b (fun hHeld => ?_)
        case sB9b => exact HS8.out ht29b
        clear hK KK
        (try simp only [Act.put, List.setIfInBounds_toArray, List.set_cons_zero, List.set_cons_succ])
        refine wpAnyH_one (i := 10) (by kernel_rfl) rfl (fun KK hK => ?_)
        go_simp
        have hq9c : Keeps (fun _ => False) wB9b (wB9b.alloc (.cells #[.slice none 0 0, .int .i64 0] 70)) := (Keeps.refl _ _).alloc _
        have HT9c := Lib.hid (ht29b.out.quiet hq9c)
        have HBK9c := Lib.hid (blk_new (W := wB9b) ht29b.out.lt (.cells #[.slice none 0 0, .int .i64 0] 70))
        have HGE9c : Hid (w9.heap.size ≤ wB9b.heap.size) := ht29b.out.mv.keeps.size
        refine hK.out _ _ ?sC9c (fun hHeld => ?_)
        case sC9c => exact HS8.out HT9c
        clear hK KK
        have HQ9c := Lib.hid hq9c
        clear hq9c
        obtain ⟨ab9c, hab9c⟩ : ∃ b, wB9b.heap.size = b := ⟨_, rfl⟩
        obtain ⟨wC9c, hwC9c⟩ : ∃ x, wB9b.alloc (.cells #[.slice none 0 0, .int .i64 0] 70) = x := ⟨_, rfl⟩
        simp only [hwC9c] at HT9c HBK9c HQ9c hHeld ⊢
        (try simp only [hab9c] at HBK9c HGE9c ⊢)
        clear hwC9c hab9c
        (try simp only [Act.put, List.setIfInBounds_toArray, List.set_cons_zero, List.set_cons_succ])
        obtain ⟨cz091, cz191⟩ := (HBK9c.out : Blk wC9c F29b _ (coverObj (.slice none 0 0) 0)).cover
        have fz091 := free_of_heap HBK9c.out.1 0
        have fz191 := free_of_heap HBK9c.out.1 1
        have lz91 := lt_of_heap HBK9c.out.1
        refine wpAnyH_one (i := 11) (by kernel_rfl) rfl (fun KK hK => ?_)
        go_simp
        have hfin91 := bet_fin HT9c.out (Lib.hid (And.intro hn29b.out.1 (hn29b.out.2.quiet HQ9c.out))).out.1 (Lib.hid (And.intro hn29b.out.1 (hn29b.out.2.quiet HQ9c.out))).out.2 HBK9c.out HGE9c.out
        refine hK.out _ _ ?sF91 (fun hHeld => ?_)
        case sF91 => exact HS8.out (Lib.hid hfin91.1)
        clear hK KK
        have HFIN91 := Lib.hid hfin91
        clear hfin91
        refine wpAnyH_done (by kernel_rfl) ?_ _
        refine NoPanic.normal ?_
        clear hHeld cz091 cz191 fz091 fz191 lz91
        go_wp2_with fail
        go_meet
        case rel => exact ⟨_, _, _, _, _, _, _, _, _, rfl, HFIN91⟩
      case p10Y9 =>
        go_simp
        have hq9d : Keeps (fun _ => False) wA9a (wA9a.alloc (.cells #[.slice none 0 0, .int .i64 0] 70)) := (Keeps.refl _ _).alloc _
        have HT9d := Lib.hid (ht19a.out.quiet hq9d)
        have HBK9d := Lib.hid (blk_new (W := wA9a) ht19a.out.lt (.cells #[.slice none 0 0, .int .i64 0] 70))
        have HGE9d : Hid (w9.heap.size ≤ wA9a.heap.size) := ht19a.out.mv.keeps.size
        refine hK.out _ _ ?sC9d (fun hHeld => ?_)
        case sC9d => exact HS8.out HT9d
        clear hK KK
        have HQ9d := Lib.hid hq9d
        clear hq9d
        obtain ⟨ab9d, hab9d⟩ : ∃ b, wA9a.heap.size = b := ⟨_, rfl⟩
        obtain ⟨wC9d, hwC9d⟩ : ∃ x, wA9a.alloc (.cells #[.slice none 0 0, .int .i64 0] 70) = x := ⟨_, rfl⟩
        simp only [hwC9d] at HT9d HBK9d HQ9d hHeld ⊢
        (try simp only [hab9d] at HBK9d HGE9d ⊢)
        clear hwC9d hab9d
        (try simp only [Act.put, List.setIfInBounds_toArray, List.set_cons_zero, List.set_cons_succ])
        refine wpAnyH_one (i := 9) (by kernel_rfl) rfl (fun KK hK => ?_)
        go_simp
        refine (HA2.out _ _ _ _ _ _ HT9d hn19a).mono ?_
        rintro e wB9e ⟨ao9e, cap9e, rA9e, bs9e, st29e, kc29e, calls29e, F29e, rfl, ht29e, hn29e, hm29e⟩
        go_simp
        refine hK.out _ _ ?sB9e (fun hHeld => ?_)
        case sB9e => exact HS8.out ht29e
        clear hK KK
        (try simp only [Act.put, List.setIfInBounds_toArray, List.set_cons_zero, List.set_cons_succ])
        have HBM9e := Lib.hid (HBK9d.out.mv hm29e.out)
        obtain ⟨cz092, cz192⟩ := (HBM9e.out : Blk wB9e F29e _ (coverObj (.slice none 0 0) 0)).cover
        have fz092 := free_of_heap HBM9e.out.1 0
        have fz192 := free_of_heap HBM9e.out.1 1
        have lz92 := lt_of_heap HBM9e.out.1
        refine wpAnyH_one (i := 11) (by kernel_rfl) rfl (fun KK hK => ?_)
        go_simp
        have hfin92 := bet_fin ht29e.out hn29e.out.1 hn29e.out.2 HBM9e.out HGE9d.out
        refine hK.out _ _ ?sF92 (fun hHeld => ?_)
        case sF92 => exact HS8.out (Lib.hid hfin92.1)
        clear hK KK
        have HFIN92 := Lib.hid hfin92
        clear hfin92
        refine wpAnyH_done (by kernel_rfl) ?_ _
        refine NoPanic.normal ?_
        clear hHeld cz092 cz192 fz092 fz192 lz92
        go_wp2_with fail
        go_meet
        case rel => exact ⟨_, _, _, _, _, _, _, _, _, rfl, HFIN92⟩
    case p10X9 =>
      go_simp
      have hq9f : Keeps (fun _ => False) wD9 (wD9.alloc (.cells #[.slice none 0 0, .int .i64 0] 70)) := (Keeps.refl _ _).alloc _
      have HT9f := Lib.hid (HT0.out.quiet hq9f)
      have HBK9f := Lib.hid (blk_new (W := wD9) HT0.out.lt (.cells #[.slice none 0 0, .int .i64 0] 70))
      have HGE9f : Hid (w9.heap.size ≤ wD9.heap.size) := HT0.out.mv.keeps.size
      refine hK.out _ _ ?sC9f (fun hHeld => ?_)
      case sC9f => exact HS8.out HT9f
      clear hK KK
      have HQ9f := Lib.hid hq9f
      clear hq9f
      obtain ⟨ab9f, hab9f⟩ : ∃ b, wD9.heap.size = b := ⟨_, rfl⟩
      obtain ⟨wC9f, hwC9f⟩ : ∃ x, wD9.alloc (.cells #[.slice none 0 0, .int .i64 0] 70) = x := ⟨_, rfl⟩
      simp only [hwC9f] at HT9f HBK9f HQ9f hHeld ⊢
      (try simp only [hab9f] at HBK9f HGE9f ⊢)
      clear hwC9f hab9f
      (try simp only [Act.put, List.setIfInBounds_toArray, List.set_cons_zero, List.set_cons_succ])
      refine wpAnyH_one (i := 6) (by kernel_rfl) rfl (fun KK hK => ?_)
      go_simp
      refine (HA1.out _ HT9f).mono ?_
      rintro e wA9g ⟨r19g, st19g, kc19g, calls19g, F19g, rfl, ht19g, hn19g, hm19g⟩
      go_simp
      refine hK.out _ _ ?sL9g (fun hHeld => ?_)
      case sL9g => exact HS8.out ht19g
      clear hK KK
      (try simp only [Act.put, List.setIfInBounds_toArray, List.set_cons_zero, List.set_cons_succ])
      have HBM9g := Lib.hid (HBK9f.out.mv hm19g.out)
      refine wpAnyH_one (i := 9) (by kernel_rfl) rfl (fun KK hK => ?_)
      go_simp
      refine (HA2.out _ _ _ _ _ _ ht19g hn19g).mono ?_
      rintro e wB9h ⟨ao9h, cap9h, rA9h, bs9h, st29h, kc29h, calls29h, F29h, rfl, ht29h, hn29h, hm29h⟩
      go_simp
      refine hK.out _ _ ?sB9h (fun hHeld => ?_)
      case sB9h => exact HS8.out ht29h
      clear hK KK
      (try simp only [Act.put, List.setIfInBounds_toArray, List.set_cons_zero, List.set_cons_succ])
      have HBM9h := Lib.hid (HBM9g.out.mv hm29h.out)
      obtain ⟨cz093, cz193⟩ := (HBM9h.out : Blk wB9h F29h _ (coverObj (.slice none 0 0) 0)).cover
      have fz093 := free_of_heap HBM9h.out.1 0
      have fz193 := free_of_heap HBM9h.out.1 1
      have lz93 := lt_of_heap HBM9h.out.1
      refine wpAnyH_one (i := 11) (by kernel_rfl) rfl (fun KK hK => ?_)
      go_simp
      have hfin93 := bet_fin ht29h.out hn29h.out.1 hn29h.out.2 HBM9h.out HGE9f.out
      refine hK.out _ _ ?sF93 (fun hHeld => ?_)
      case sF93 => exact HS8.out (Lib.hid hfin93.1)
      clear hK KK
      have HFIN93 := Lib.hid hfin93
      clear hfin93
      refine wpAnyH_done (by kernel_rfl) ?_ _
      refine NoPanic.normal ?_
      clear hHeld cz093 cz193 fz093 fz193 lz93
      go_wp2_with fail
      go_meet
      case rel => exact ⟨_, _, _, _, _, _, _, _, _, rfl, HFIN93⟩
  case rest =>
    clear HA1 HA2 HS8 hS0 HT0
    obtain ⟨ab, aoA, capA, rA, bsA, stA, kcA, callsA, FA, rfl, HO⟩ := hcut
    obtain ⟨w10, hw10⟩ : ∃ x, x = wc := ⟨_, rfl⟩
    subst hw10
    obtain ⟨hTA, hNA, hCA, hBA, hgeA⟩ := HO.out
    have HTA := Lib.hid (HT9.out.trans hTA)
    have HZ10 : Hid (z ≤ w10.heap.size ∧ W.heap.size ≤ w9.heap.size ∧ w9.heap.size ≤ w10.heap.size) := ⟨Nat.le_trans HZ9.out.1 hTA.mv.keeps.size, HZ9.out.2, hTA.mv.keeps.size⟩
    have HR10 := Lib.hid ((HR9.out : Blk w9 F W.heap.size (coverObj (.slice none 0 0) 0)).mv hTA.mv)
    have HL10 := Lib.hid ((HL9.out : Blk w9 F lb (pairObj l0 l1)).mv hTA.mv)
    have HG10 := Lib.hid ((HG9.out : Blk w9 F hb (pairObj g0 g1)).mv hTA.mv)
    have HL0 : Hid (Num stA l0 (half low v false) ∧ Late (k : Int) stA m1 l0) := ⟨hl0.out.1.ext hTA.ext HGD.out, hl0.out.2.ext hTA.ext hl0.out.1.is⟩
    have HL1 : Hid (Num stA l1 (half low v true) ∧ Late (k : Int) stA m1 l1) := ⟨hl1.out.1.ext hTA.ext HGD.out, hl1.out.2.ext hTA.ext hl1.out.1.is⟩
    have HG0 : Hid (Num stA g0 (half high v false) ∧ Late (k : Int) stA m1 g0) := ⟨hg0.out.1.ext hTA.ext HGD.out, hg0.out.2.ext hTA.ext hg0.out.1.is⟩
    have HG1 : Hid (Num stA g1 (half high v true) ∧ Late (k : Int) stA m1 g1) := ⟨hg1.out.1.ext hTA.ext HGD.out, hg1.out.2.ext hTA.ext hg1.out.1.is⟩
    have HNA1 := Lib.hid hNA
    have HCA := Lib.hid hCA
    have HBA := Lib.hid hBA
    have HGEA := Lib.hid hgeA
    have HRLT : Hid (W.heap.size < w9.heap.size) := lt_of_heap HR9.out.1
    have HDA := Lib.hid hTA.dg
    have HGDA := Lib.hid hTA.dg.good
    have hnA' := hTA.hn
    have hcA' := hTA.hc
    clear HO hTA hNA hCA hBA hgeA HR9 HL9 HG9 hl0 hl1 hg0 hg1 HZ9 HGD HT9
    -- region 9
    have HS9 : Hid (∀ {n c : Nat} {st1 : St} {kc1 : Nat} {calls1 : Int} {F1 : Nat → Prop} {W1 : World}, Hid (DgTo z w10 k d Bg stA kcA FA n c st1 kc1 calls1 F1 W1) → (fun w' : World => w'.cell? ⟨lb, 0, none⟩ = some (.int .i64 l0) ∧ w'.cell? ⟨lb, 1, none⟩ = some (.int .i64 l1) ∧ w'.cell? ⟨hb, 0, none⟩ = some (.int .i64 g0) ∧ w'.cell? ⟨hb, 1, none⟩ = some (.int .i64 g1)) W1) := fun t =>
      ⟨(HL10.out.mv t.out.mv).pair.1, (HL10.out.mv t.out.mv).pair.2, (HG10.out.mv t.out.mv).pair.1, (HG10.out.mv t.out.mv).pair.2⟩
    have HB1 : Hid (∀ W1, Hid (DgTo z w10 k d Bg stA kcA FA 0 0 stA kcA callsA FA W1) → Calls Try.prog 35 #[.pointer (some ⟨d, 0, none⟩), .int .i64 g0, .int .i64 l1] W1 fun e W' => ∃ r st1 kc1 calls1 F1, e = .returned (.int .i64 r) ∧ Hid (DgTo z w10 k d Bg stA kcA FA (2 ^ m1) 1 st1 kc1 calls1 F1 W') ∧ Hid (Num st1 r (fun β => !half high v false β && half low v true β)) ∧ Hid (Mv W1 W' FA F1)) := fun W1 t => by
      refine (t.out.dg.less (Nat.le_trans HZ10.out.1 t.out.mv.keeps.size) (by omega) (by omega) (by have := HRM.out; omega) HG0.out.1 HL1.out.1 HG0.out.2 HL1.out.2).mono ?_
      rintro e W' ⟨r, st1, kc1, calls1, F1, rfl, q⟩
      exact ⟨r, st1, kc1, calls1, F1, rfl, (t.out.trans q.out.1).more (by omega) (by omega), q.out.2.1, q.out.1.mv⟩
    have HB2 : Hid (∀ r st1 kc1 calls1 F1 W1, Hid (DgTo z w10 k d Bg stA kcA FA (2 ^ m1) 1 st1 kc1 calls1 F1 W1) → Hid (Num st1 r (fun β => !half high v false β && half low v true β)) → Calls Try.prog 37 #[.pointer (some ⟨d, 0, none⟩), .int .i64 r, .int .i64 g1] W1 fun e W' => ∃ ao cap rB bs st2 kc2 calls2 F2, e = .returned (.agg #[.slice ao B.length cap, .int .i64 rB]) ∧ Hid (DgTo z w10 k d Bg stA kcA FA (2 ^ m1 + nb) (1 + cb) st2 kc2 calls2 F2 W') ∧ Hid (Num st2 rB fb ∧ Cb w10.heap.size W' F2 k (.slice ao B.length cap) B bs) ∧ Hid (Mv W1 W' F1 F2)) := fun r st1 kc1 calls1 F1 W1 t hr => by
      have hz1 : w10.heap.size ≤ W1.heap.size := t.out.mv.keeps.size
      have e1 := t.out.hn
      have e2 := t.out.hc
      refine (iB z W1 st1 kc1 calls1 F1 r g1 t.out.dg (Nat.le_trans HZ10.out.1 hz1) (fun β hb => by rw [Bool.and_eq_true] at hb; exact HIN.out.1 _ hb.2) hr.out (HG1.out.1.ext t.out.ext HGDA.out) (by omega) (by have := HRM.out; omega)).mono ?_
      rintro e W' ⟨ao, cap, rA, bs, st2, kc2, calls2, F2, rfl, q⟩
      exact ⟨ao, cap, rA, bs, st2, kc2, calls2, F2, rfl, t.out.trans q.out.1, ⟨q.out.2.1, q.out.2.2.1.mono hz1, q.out.2.2.2⟩, q.out.1.mv⟩
    have HT0 : Hid (DgTo z w10 k d Bg stA kcA FA 0 0 stA kcA callsA FA w10.drew) := (DgTo.refl HDA.out).quiet ((Keeps.refl _ _).drew)
    have hS0 := HS9.out HT0
    obtain ⟨nB, hnB⟩ : ∃ n, B.length = n := ⟨_, rfl⟩
    have HNB := Lib.hid hnB
    rw [hnB] at HB2
    clear hnB
    go_upto_region 9 with fail
    go_cut [11] (fun p wx => ∃ (ab : Nat) (ao : Option Addr) (cap : Nat) (rA : Int) (bs : List Nat) (st2 : St) (kc2 : Nat) (calls2 : Int) (F2 : Nat → Prop), p = .pointer (some ⟨ab, 0, none⟩) ∧ Hid (BetOut z w10 k d Bg stA kcA FA (2 ^ m1 + nb) (1 + cb) st2 kc2 calls2 F2 wx fb (.slice ao nB cap) rA B bs ab))
    case first =>
      clear iA iB iC ba bb bc
      refine wp_region_noPanic ?_
      refine wp_region_held_drew (S := (fun w' : World => w'.cell? ⟨lb, 0, none⟩ = some (.int .i64 l0) ∧ w'.cell? ⟨lb, 1, none⟩ = some (.int .i64 l1) ∧ w'.cell? ⟨hb, 0, none⟩ = some (.int .i64 g0) ∧ w'.cell? ⟨hb, 1, none⟩ = some (.int .i64 g1))) (by kernel_rfl) hS0 (fun hHeld => ?_)
      refine wpAnyH_take_at (i := 0) (v := ?v010k) rfl (by kernel_rfl) (by kernel_rfl) (by kernel_rfl) (fun _ _ _ h => h) (Or.inl ⟨by rfl, ?y010k⟩) hHeld ?r010k
      case y010k => (intro w hSw; (try dsimp only at hSw); go_simp; first | done | with_reducible rfl)
      (try simp only [Act.put, List.setIfInBounds_toArray, List.set_cons_zero, List.set_cons_succ])
      refine wpAnyH_take_at (i := 1) (v := ?v110k) rfl (by kernel_rfl) (by kernel_rfl) (by kernel_rfl) (fun _ _ _ h => h) (Or.inl ⟨by rfl, ?y110k⟩) hHeld ?r110k
      case y110k => (intro w hSw; (try dsimp only at hSw); go_simp; first | done | with_reducible rfl)
      (try simp only [Act.put, List.setIfInBounds_toArray, List.set_cons_zero, List.set_cons_succ])
      refine wpAnyH_take_at (i := 2) (v := ?v210k) rfl (by kernel_rfl) (by kernel_rfl) (by kernel_rfl) (fun _ _ _ h => h) (Or.inl ⟨by rfl, ?y210k⟩) hHeld ?r210k
      case y210k => (intro w hSw; (try dsimp only at hSw); go_simp; first | done | with_reducible rfl)
      (try simp only [Act.put, List.setIfInBounds_toArray, List.set_cons_zero, List.set_cons_succ])
      refine wpAnyH_take_at (i := 3) (v := ?v310k) rfl (by kernel_rfl) (by kernel_rfl) (by kernel_rfl) (fun _ _ _ h => h) (Or.inl ⟨by rfl, ?y310k⟩) hHeld ?r310k
      case y310k => (intro w hSw; (try dsimp only at hSw); go_simp; first | done | with_reducible rfl)
      (try simp only [Act.put, List.setIfInBounds_toArray, List.set_cons_zero, List.set_cons_succ])
      refine wpAnyH_take_at (i := 4) (v := ?v410k) rfl (by kernel_rfl) (by kernel_rfl) (by kernel_rfl) (fun _ _ _ h => h) (Or.inl ⟨by rfl, ?y410k⟩) hHeld ?r410k
      case y410k => (intro w hSw; (try dsimp only at hSw); go_simp; first | done | with_reducible rfl)
      (try simp only [Act.put, List.setIfInBounds_toArray, List.set_cons_zero, List.set_cons_succ])
      refine wpAnyH_take_at (i := 5) (v := ?v510k) rfl (by kernel_rfl) (by kernel_rfl) (by kernel_rfl) (fun _ _ _ h => h) (Or.inl ⟨by rfl, ?y510k⟩) hHeld ?r510k
      case y510k => (intro w hSw; (try dsimp only at hSw); go_simp; first | done | with_reducible rfl)
      (try simp only [Act.put, List.setIfInBounds_toArray, List.set_cons_zero, List.set_cons_succ])
      refine wpAnyH_take_at (i := 7) (v := ?v710k) rfl (by kernel_rfl) (by kernel_rfl) (by kernel_rfl) (fun _ _ _ h => h) (Or.inl ⟨by rfl, ?y710k⟩) hHeld ?r710k
      case y710k => (intro w hSw; (try dsimp only at hSw); go_simp; first | done | with_reducible rfl)
      (try simp only [Act.put, List.setIfInBounds_toArray, List.set_cons_zero, List.set_cons_succ])
      refine wpAnyH_take_at (i := 8) (v := ?v810k) rfl (by kernel_rfl) (by kernel_rfl) (by kernel_rfl) (fun _ _ _ h => h) (Or.inl ⟨by rfl, ?y810k⟩) hHeld ?r810k
      case y810k => (intro w hSw; (try dsimp only at hSw); go_simp; first | done | with_reducible rfl)
      (try simp only [Act.put, List.setIfInBounds_toArray, List.set_cons_zero, List.set_cons_succ])
      obtain ⟨wD10, hwD10⟩ : ∃ x, w10.drew = x := ⟨_, rfl⟩
      simp only [hwD10] at hHeld HT0 ⊢
      clear hwD10 hS0
      refine wpAnyH_two (i := 6) (j := 10) (by kernel_rfl) rfl rfl (fun KK hK => ?p6X10) (fun KK hK => ?p10X10)
      case p6X10 =>
        go_simp
        refine (HB1.out _ HT0).mono ?_
        rintro e wA10a ⟨r110a, st110a, kc110a, calls110a, F110a, rfl, ht110a, hn110a, hm110a⟩
        go_simp
        refine hK.out _ _ ?sL10a (fun hHeld => ?_)
        case sL10a => exact HS9.out ht110a
        clear hK KK
        (try simp only [Act.put, List.setIfInBounds_toArray, List.set_cons_zero, List.set_cons_succ])
        refine wpAnyH_two (i := 9) (j := 10) (by kernel_rfl) rfl rfl (fun KK hK => ?p9Y10) (fun KK hK => ?p10Y10)
        case p9Y10 =>
          go_simp
          refine (HB2.out _ _ _ _ _ _ ht110a hn110a).mono ?_
          rintro e wB10b ⟨ao10b, cap10b, rA10b, bs10b, st210b, kc210b, calls210b, F210b, rfl, ht210b, hn210b, hm210b⟩
          go_simp
          refine hK.out _ _ ?sB10b (fun hHeld => ?_)
          case sB10b => exact HS9.out ht210b
          clear hK KK
          (try simp only [Act.put, List.setIfInBounds_toArray, List.set_cons_zero, List.set_cons_succ])
          refine wpAnyH_one (i := 10) (by kernel_rfl) rfl (fun KK hK => ?_)
          go_simp
          have hq10c : Keeps (fun _ => False) wB10b (wB10b.alloc (.cells #[.slice none 0 0, .int .i64 0] 70)) := (Keeps.refl _ _).alloc _
          have HT10c := Lib.hid (ht210b.out.quiet hq10c)
          have HBK10c := Lib.hid (blk_new (W := wB10b) ht210b.out.lt (.cells #[.slice none 0 0, .int .i64 0] 70))
          have HGE10c : Hid (w10.heap.size ≤ wB10b.heap.size) := ht210b.out.mv.keeps.size
          refine hK.out _ _ ?sC10c (fun hHeld => ?_)
          case sC10c => exact HS9.out HT10c
          clear hK KK
          have HQ10c := Lib.hid hq10c
          clear hq10c
          obtain ⟨ab10c, hab10c⟩ : ∃ b, wB10b.heap.size = b := ⟨_, rfl⟩
          obtain ⟨wC10c, hwC10c⟩ : ∃ x, wB10b.alloc (.cells #[.slice none 0 0, .int .i64 0] 70) = x := ⟨_, rfl⟩
          simp only [hwC10c] at HT10c HBK10c HQ10c hHeld ⊢
          (try simp only [hab10c] at HBK10c HGE10c ⊢)
          clear hwC10c hab10c
          (try simp only [Act.put, List.setIfInBounds_toArray, List.set_cons_zero, List.set_cons_succ])
          obtain ⟨cz0101, cz1101⟩ := (HBK10c.out : Blk wC10c F210b _ (coverObj (.slice none 0 0) 0)).cover
          have fz0101 := free_of_heap HBK10c.out.1 0
          have fz1101 := free_of_heap HBK10c.out.1 1
          have lz101 := lt_of_heap HBK10c.out.1
          refine wpAnyH_one (i := 11) (by kernel_rfl) rfl (fun KK hK => ?_)
          go_simp
          have hfin101 := bet_fin HT10c.out (Lib.hid (And.intro hn210b.out.1 (hn210b.out.2.quiet HQ10c.out))).out.1 (Lib.hid (And.intro hn210b.out.1 (hn210b.out.2.quiet HQ10c.out))).out.2 HBK10c.out HGE10c.out
          refine hK.out _ _ ?sF101 (fun hHeld => ?_)
          case sF101 => exact HS9.out (Lib.hid hfin101.1)
          clear hK KK
          have HFIN101 := Lib.hid hfin101
          clear hfin101
          refine wpAnyH_done (by kernel_rfl) ?_ _
          refine NoPanic.normal ?_
          clear hHeld cz0101 cz1101 fz0101 fz1101 lz101
          go_wp2_with fail
          go_meet
          case rel => exact ⟨_, _, _, _, _, _, _, _, _, rfl, HFIN101⟩
        case p10Y10 =>
          go_simp
          have hq10d : Keeps (fun _ => False) wA10a (wA10a.alloc (.cells #[.slice none 0 0, .int .i64 0] 70)) := (Keeps.refl _ _).alloc _
          have HT10d := Lib.hid (ht110a.out.quiet hq10d)
          have HBK10d := Lib.hid (blk_new (W := wA10a) ht110a.out.lt (.cells #[.slice none 0 0, .int .i64 0] 70))
          have HGE10d : Hid (w10.heap.size ≤ wA10a.heap.size) := ht110a.out.mv.keeps.size
          refine hK.out _ _ ?sC10d (fun hHeld => ?_)
          case sC10d => exact HS9.out HT10d
          clear hK KK
          have HQ10d := Lib.hid hq10d
          clear hq10d
          obtain ⟨ab10d, hab10d⟩ : ∃ b, wA10a.heap.size = b := ⟨_, rfl⟩
          obtain ⟨wC10d, hwC10d⟩ : ∃ x, wA10a.alloc (.cells #[.slice none 0 0, .int .i64 0] 70) = x := ⟨_, rfl⟩
          simp only [hwC10d] at HT10d HBK10d HQ10d hHeld ⊢
          (try simp only [hab10d] at HBK10d HGE10d ⊢)
          clear hwC10d hab10d
          (try simp only [Act.put, List.setIfInBounds_toArray, List.set_cons_zero, List.set_cons_succ])
          refine wpAnyH_one (i := 9) (by kernel_rfl) rfl (fun KK hK => ?_)
          go_simp
          refine (HB2.out _ _ _ _ _ _ HT10d hn110a).mono ?_
          rintro e wB10e ⟨ao10e, cap10e, rA10e, bs10e, st210e, kc210e, calls210e, F210e, rfl, ht210e, hn210e, hm210e⟩
          go_simp
          refine hK.out _ _ ?sB10e (fun hHeld => ?_)
          case sB10e => exact HS9.out ht210e
          clear hK KK
          (try simp only [Act.put, List.setIfInBounds_toArray, List.set_cons_zero, List.set_cons_succ])
          have HBM10e := Lib.hid (HBK10d.out.mv hm210e.out)
          obtain ⟨cz0102, cz1102⟩ := (HBM10e.out : Blk wB10e F210e _ (coverObj (.slice none 0 0) 0)).cover
          have fz0102 := free_of_heap HBM10e.out.1 0
          have fz1102 := free_of_heap HBM10e.out.1 1
          have lz102 := lt_of_heap HBM10e.out.1
          refine wpAnyH_one (i := 11) (by kernel_rfl) rfl (fun KK hK => ?_)
          go_simp
          have hfin102 := bet_fin ht210e.out hn210e.out.1 hn210e.out.2 HBM10e.out HGE10d.out
          refine hK.out _ _ ?sF102 (fun hHeld => ?_)
          case sF102 => exact HS9.out (Lib.hid hfin102.1)
          clear hK KK
          have HFIN102 := Lib.hid hfin102
          clear hfin102
          refine wpAnyH_done (by kernel_rfl) ?_ _
          refine NoPanic.normal ?_
          clear hHeld cz0102 cz1102 fz0102 fz1102 lz102
          go_wp2_with fail
          go_meet
          case rel => exact ⟨_, _, _, _, _, _, _, _, _, rfl, HFIN102⟩
      case p10X10 =>
        go_simp
        have hq10f : Keeps (fun _ => False) wD10 (wD10.alloc (.cells #[.slice none 0 0, .int .i64 0] 70)) := (Keeps.refl _ _).alloc _
        have HT10f := Lib.hid (HT0.out.quiet hq10f)
        have HBK10f := Lib.hid (blk_new (W := wD10) HT0.out.lt (.cells #[.slice none 0 0, .int .i64 0] 70))
        have HGE10f : Hid (w10.heap.size ≤ wD10.heap.size) := HT0.out.mv.keeps.size
        refine hK.out _ _ ?sC10f (fun hHeld => ?_)
        case sC10f => exact HS9.out HT10f
        clear hK KK
        have HQ10f := Lib.hid hq10f
        clear hq10f
        obtain ⟨ab10f, hab10f⟩ : ∃ b, wD10.heap.size = b := ⟨_, rfl⟩
        obtain ⟨wC10f, hwC10f⟩ : ∃ x, wD10.alloc (.cells #[.slice none 0 0, .int .i64 0] 70) = x := ⟨_, rfl⟩
        simp only [hwC10f] at HT10f HBK10f HQ10f hHeld ⊢
        (try simp only [hab10f] at HBK10f HGE10f ⊢)
        clear hwC10f hab10f
        (try simp only [Act.put, List.setIfInBounds_toArray, List.set_cons_zero, List.set_cons_succ])
        refine wpAnyH_one (i := 6) (by kernel_rfl) rfl (fun KK hK => ?_)
        go_simp
        refine (HB1.out _ HT10f).mono ?_
        rintro e wA10g ⟨r110g, st110g, kc110g, calls110g, F110g, rfl, ht110g, hn110g, hm110g⟩
        go_simp
        refine hK.out _ _ ?sL10g (fun hHeld => ?_)
        case sL10g => exact HS9.out ht110g
        clear hK KK
        (try simp only [Act.put, List.setIfInBounds_toArray, List.set_cons_zero, List.set_cons_succ])
        have HBM10g := Lib.hid (HBK10f.out.mv hm110g.out)
        refine wpAnyH_one (i := 9) (by kernel_rfl) rfl (fun KK hK => ?_)
        go_simp
        refine (HB2.out _ _ _ _ _ _ ht110g hn110g).mono ?_
        rintro e wB10h ⟨ao10h, cap10h, rA10h, bs10h, st210h, kc210h, calls210h, F210h, rfl, ht210h, hn210h, hm210h⟩
        go_simp
        refine hK.out _ _ ?sB10h (fun hHeld => ?_)
        case sB10h => exact HS9.out ht210h
        clear hK KK
        (try simp only [Act.put, List.setIfInBounds_toArray, List.set_cons_zero, List.set_cons_succ])
        have HBM10h := Lib.hid (HBM10g.out.mv hm210h.out)
        obtain ⟨cz0103, cz1103⟩ := (HBM10h.out : Blk wB10h F210h _ (coverObj (.slice none 0 0) 0)).cover
        have fz0103 := free_of_heap HBM10h.out.1 0
        have fz1103 := free_of_heap HBM10h.out.1 1
        have lz103 := lt_of_heap HBM10h.out.1
        refine wpAnyH_one (i := 11) (by kernel_rfl) rfl (fun KK hK => ?_)
        go_simp
        have hfin103 := bet_fin ht210h.out hn210h.out.1 hn210h.out.2 HBM10h.out HGE10f.out
        refine hK.out _ _ ?sF103 (fun hHeld => ?_)
        case sF103 => exact HS9.out (Lib.hid hfin103.1)
        clear hK KK
        have HFIN103 := Lib.hid hfin103
        clear hfin103
        refine wpAnyH_done (by kernel_rfl) ?_ _
        refine NoPanic.normal ?_
        clear hHeld cz0103 cz1103 fz0103 fz1103 lz103
        go_wp2_with fail
        go_meet
        case rel => exact ⟨_, _, _, _, _, _, _, _, _, rfl, HFIN103⟩
    case rest =>
      clear HB1 HB2 HS9 hS0 HT0
      obtain ⟨eb, aoB, capB, rB, bsB, stB, kcB, callsB, FB, rfl, HO⟩ := hcut
      obtain ⟨w11, hw11⟩ : ∃ x, x = wc := ⟨_, rfl⟩
      subst hw11
      obtain ⟨hTB, hNB, hCB, hBB, hgeB⟩ := HO.out
      have HTB := Lib.hid (HTA.out.trans hTB)
      have HZ11 : Hid (z ≤ w11.heap.size ∧ W.heap.size ≤ w9.heap.size ∧ w9.heap.size ≤ w10.heap.size ∧ w10.heap.size ≤ w11.heap.size) := ⟨Nat.le_trans HZ10.out.1 hTB.mv.keeps.size, HZ10.out.2.1, HZ10.out.2.2, hTB.mv.keeps.size⟩
      have HR11 := Lib.hid (HR10.out.mv hTB.mv)
      have HL11 := Lib.hid (HL10.out.mv hTB.mv)
      have HG11 := Lib.hid (HG10.out.mv hTB.mv)
      have HBA11 := Lib.hid (HBA.out.mv hTB.mv)
      have HCA11 := Lib.hid (HCA.out.mv hTB.mv)
      have HLTA := Lib.hid HCA.out.1.lt
      have HLTB := Lib.hid hCB.1.lt
      have HGEB := Lib.hid hgeB
      have HBB11 := Lib.hid hBB
      have HCB11 := Lib.hid hCB
      have hIa := ba.ind
      have hIb := bb.ind
      have hfa : ∀ w, w < v + 1 → Ind fa w := fun w hw => by
        have hl : ∀ so, Ind (half low v so) w := fun so => by
          by_cases e : w = v
          · subst e; exact half_ind _ _ _
          · exact half_other (HIN.out.2.1 w (by omega)).1 e so
        have hh : ∀ so, Ind (half high v so) w := fun so => by
          by_cases e : w = v
          · subst e; exact half_ind _ _ _
          · exact half_other (HIN.out.2.1 w (by omega)).2 e so
        exact (hIa w (by omega) (fun β s => by show (!half high v true (putB β w s) && half low v false (putB β w s)) = _; rw [hh, hl]) (hh false)).2
      have hfb : ∀ w, w < v + 1 → Ind fb w := fun w hw => by
        have hl : ∀ so, Ind (half low v so) w := fun so => by
          by_cases e : w = v
          · subst e; exact half_ind _ _ _
          · exact half_other (HIN.out.2.1 w (by omega)).1 e so
        have hh : ∀ so, Ind (half high v so) w := fun so => by
          by_cases e : w = v
          · subst e; exact half_ind _ _ _
          · exact half_other (HIN.out.2.1 w (by omega)).2 e so
        exact (hIb w (by omega) (fun β s => by show (!half high v false (putB β w s) && half low v true (putB β w s)) = _; rw [hh, hl]) (hh true)).2
      have hgdB := hTB.dg.good
      have hNA11 := HNA1.out.ext hTB.ext HGDA.out
      have hm1e : k - (v + 1) = m1 := by omega
      have HNA11 : Hid (Num stB rA fa ∧ Late (k : Int) stB m1 rA) := ⟨hNA11, by rw [← hm1e]; exact late_of hgdB hNA11 (by omega) hfa⟩
      have HNB11 : Hid (Num stB rB fb ∧ Late (k : Int) stB m1 rB) := ⟨hNB, by rw [← hm1e]; exact late_of hgdB hNB (by omega) hfb⟩
      have HL0B : Hid (Num stB l0 (half low v false) ∧ Late (k : Int) stB m1 l0) := ⟨HL0.out.1.ext hTB.ext HGDA.out, HL0.out.2.ext hTB.ext HL0.out.1.is⟩
      have HL1B : Hid (Num stB l1 (half low v true) ∧ Late (k : Int) stB m1 l1) := ⟨HL1.out.1.ext hTB.ext HGDA.out, HL1.out.2.ext hTB.ext HL1.out.1.is⟩
      have HG0B : Hid (Num stB g0 (half high v false) ∧ Late (k : Int) stB m1 g0) := ⟨HG0.out.1.ext hTB.ext HGDA.out, HG0.out.2.ext hTB.ext HG0.out.1.is⟩
      have HG1B : Hid (Num stB g1 (half high v true) ∧ Late (k : Int) stB m1 g1) := ⟨HG1.out.1.ext hTB.ext HGDA.out, HG1.out.2.ext hTB.ext HG1.out.1.is⟩
      have HGDB := Lib.hid hgdB
      have HDB := Lib.hid hTB.dg
      have hnB' := hTB.hn
      have hcB' := hTB.hc
      clear HO hTB hNB hCB hBB hgeB HR10 HL10 HG10 HL0 HL1 HG0 HG1 HZ10 HGDA HTA HDA HCA HBA HNA1 hIa hIb hgdB hNA11
      -- region 10
      have HS10 : Hid (∀ {n c : Nat} {st1 : St} {kc1 : Nat} {calls1 : Int} {F1 : Nat → Prop} {W1 : World}, Hid (DgTo z w11 k d Bg stB kcB FB n c st1 kc1 calls1 F1 W1) → (fun w' : World => w'.cell? ⟨ab, 1, none⟩ = some (.int .i64 rA) ∧ w'.cell? ⟨lb, 0, none⟩ = some (.int .i64 l0) ∧ w'.cell? ⟨eb, 1, none⟩ = some (.int .i64 rB) ∧ w'.cell? ⟨lb, 1, none⟩ = some (.int .i64 l1)) W1) := fun t =>
        ⟨(HBA11.out.mv t.out.mv).cover.2, (HL11.out.mv t.out.mv).pair.1, (HBB11.out.mv t.out.mv).cover.2, (HL11.out.mv t.out.mv).pair.2⟩
      have HC1 : Hid (∀ W1, Hid (DgTo z w11 k d Bg stB kcB FB 0 0 stB kcB callsB FB W1) → Calls Try.prog 35 #[.pointer (some ⟨d, 0, none⟩), .int .i64 rA, .int .i64 l0] W1 fun e W' => ∃ r st1 kc1 calls1 F1, e = .returned (.int .i64 r) ∧ Hid (DgTo z w11 k d Bg stB kcB FB (2 ^ m1) 1 st1 kc1 calls1 F1 W') ∧ Hid (Num st1 r (fun β => !fa β && half low v false β) ∧ Late (k : Int) st1 m1 r)) := fun W1 t => by
        refine (t.out.dg.less (Nat.le_trans HZ11.out.1 t.out.mv.keeps.size) (by omega) (by omega) (by have := HRM.out; omega) HNA11.out.1 HL0B.out.1 HNA11.out.2 HL0B.out.2).mono ?_
        rintro e W' ⟨r, st1, kc1, calls1, F1, rfl, q⟩
        exact ⟨r, st1, kc1, calls1, F1, rfl, (t.out.trans q.out.1).more (by omega) (by omega), q.out.2⟩
      have HC2 : Hid (∀ q1 st1 kc1 calls1 F1 W1, Hid (DgTo z w11 k d Bg stB kcB FB (2 ^ m1) 1 st1 kc1 calls1 F1 W1) → Hid (Num st1 q1 (fun β => !fa β && half low v false β) ∧ Late (k : Int) st1 m1 q1) → Calls Try.prog 35 #[.pointer (some ⟨d, 0, none⟩), .int .i64 rB, .int .i64 l1] W1 fun e W' => ∃ r st2 kc2 calls2 F2, e = .returned (.int .i64 r) ∧ Hid (DgTo z w11 k d Bg stB kcB FB (2 * 2 ^ m1) 2 st2 kc2 calls2 F2 W') ∧ Hid ((Num st2 q1 (fun β => !fa β && half low v false β) ∧ Late (k : Int) st2 m1 q1) ∧ Num st2 r (fun β => !fb β && half low v true β) ∧ Late (k : Int) st2 m1 r)) := fun q1 st1 kc1 calls1 F1 W1 t hq1 => by
        have e1 := t.out.hn
        have e2 := t.out.hc
        refine (t.out.dg.less (Nat.le_trans HZ11.out.1 t.out.mv.keeps.size) (by omega) (by omega) (by have := HRM.out; omega) (HNB11.out.1.ext t.out.ext HGDB.out) (HL1B.out.1.ext t.out.ext HGDB.out) (HNB11.out.2.ext t.out.ext HNB11.out.1.is) (HL1B.out.2.ext t.out.ext HL1B.out.1.is)).mono ?_
        rintro e W' ⟨r, st2, kc2, calls2, F2, rfl, q⟩
        exact ⟨r, st2, kc2, calls2, F2, rfl, (t.out.trans q.out.1).more (by omega) (by omega), ⟨hq1.out.1.ext q.out.1.ext t.out.dg.good, hq1.out.2.ext q.out.1.ext hq1.out.1.is⟩, q.out.2⟩
      have HC3 : Hid (∀ q1 q2 st1 kc1 calls1 F1 W1, Hid (DgTo z w11 k d Bg stB kcB FB (2 * 2 ^ m1) 2 st1 kc1 calls1 F1 W1) → Hid ((Num st1 q1 (fun β => !fa β && half low v false β) ∧ Late (k : Int) st1 m1 q1) ∧ Num st1 q2 (fun β => !fb β && half low v true β) ∧ Late (k : Int) st1 m1 q2) → Calls Try.prog 33 #[.pointer (some ⟨d, 0, none⟩), .slice (some ⟨W1.heap.size, 0, none⟩) 2 2] (W1.alloc (.cells #[.int .i64 q1, .int .i64 q2] 3)) fun e W' => ∃ r st2 kc2 calls2 F2, e = .returned (.int .i64 r) ∧ Hid (DgTo z w11 k d Bg stB kcB FB (4 * 2 ^ m1) 4 st2 kc2 calls2 F2 W') ∧ Hid (Num st2 r (fun β => (!fa β && half low v false β) || (!fb β && half low v true β)))) := fun q1 q2 st1 kc1 calls1 F1 W1 t hq => by
        have e1 := t.out.hn
        have e2 := t.out.hc
        refine (t.out.dg.or2 (Nat.le_trans HZ11.out.1 t.out.mv.keeps.size) (by omega) (by omega) (by have := HRM.out; omega) hq.out.1.1 hq.out.2.1 (m := m1) (by omega) hq.out.1.2 hq.out.2.2).mono ?_
        rintro e W' ⟨r, st2, kc2, calls2, F2, rfl, q⟩
        exact ⟨r, st2, kc2, calls2, F2, rfl, (t.out.trans q.out.1).more (by omega) (by omega), q.out.2.1⟩
      have HT0 : Hid (DgTo z w11 k d Bg stB kcB FB 0 0 stB kcB callsB FB w11.drew) := (DgTo.refl HDB.out).quiet ((Keeps.refl _ _).drew)
      have hS0 := HS10.out HT0
      go_upto_region 10 with fail
      go_region_held3 (fun w' : World => w'.cell? ⟨ab, 1, none⟩ = some (.int .i64 rA) ∧ w'.cell? ⟨lb, 0, none⟩ = some (.int .i64 l0) ∧ w'.cell? ⟨eb, 1, none⟩ = some (.int .i64 rB) ∧ w'.cell? ⟨lb, 1, none⟩ = some (.int .i64 l1)) (first | exact hS0 | exact HS10.out (by assumption) | exact HS10.out (Lib.hid (ht2.out.quiet ((Keeps.refl _ _).alloc _)))) (first | (go_at_call_of 35 (Value.int IntKind.i64 rA); refine (HC1.out _ HT0).mono ?_; rintro e wD ⟨q1, st1, kc1, calls1, F1, rfl, ht1, hq1⟩) | (go_at_call 35; refine (HC2.out _ _ _ _ _ _ ht1 hq1).mono ?_; rintro e wE ⟨q2, st2, kc2, calls2, F2, rfl, ht2, hq2⟩) | (go_at_call 33; refine (HC3.out _ _ _ _ _ _ _ ht2 hq2).mono ?_; rintro e w12 ⟨q3, st3, kc3, calls3, F3, rfl, ht3, hq3⟩))
      have hnd3 := ht3.out.hn
      have hcd3 := ht3.out.hc
      have HTC := Lib.hid (HTB.out.trans ht3.out)
      have HZ12 : Hid (z ≤ w12.heap.size ∧ w11.heap.size ≤ w12.heap.size) := ⟨Nat.le_trans HZ11.out.1 ht3.out.mv.keeps.size, ht3.out.mv.keeps.size⟩
      have HR12 : Hid (Blk w12 F3 W.heap.size (coverObj (.slice none 0 0) 0)) := HR11.out.mv ht3.out.mv
      have HG12 : Hid (Blk w12 F3 hb (pairObj g0 g1)) := HG11.out.mv ht3.out.mv
      have HBA12 := Lib.hid (HBA11.out.mv ht3.out.mv)
      have HBB12 := Lib.hid (HBB11.out.mv ht3.out.mv)
      have HCA12 := Lib.hid (HCA11.out.mv ht3.out.mv)
      have HCB12 := Lib.hid (HCB11.out.mv ht3.out.mv)
      have HNA12 := Lib.hid (HNA11.out.1.ext ht3.out.ext HGDB.out)
      have HNB12 := Lib.hid (HNB11.out.1.ext ht3.out.ext HGDB.out)
      have HG0C : Hid (Num st3 g0 (half high v false) ∧ Late (k : Int) st3 m1 g0) := ⟨HG0B.out.1.ext ht3.out.ext HGDB.out, HG0B.out.2.ext ht3.out.ext HG0B.out.1.is⟩
      have HG1C : Hid (Num st3 g1 (half high v true) ∧ Late (k : Int) st3 m1 g1) := ⟨HG1B.out.1.ext ht3.out.ext HGDB.out, HG1B.out.2.ext ht3.out.ext HG1B.out.1.is⟩
      have HD3 := Lib.hid ht3.out.dg
      clear HC1 HC2 HC3 HS10 hS0 HT0 ht1 ht2 hq1 hq2 ht3 HR11 HG11 HL11 HBA11 HBB11 HCA11 HCB11 HNA11 HNB11 HL0B HL1B HG0B HG1B HGDB HDB HTB
      -- region 11
      have HE1 : Hid (Calls Try.prog 32 #[.pointer (some ⟨d, 0, none⟩), .slice (some ⟨w12.heap.size, 0, none⟩) 2 2] (w12.alloc (.cells #[.int .i64 g0, .int .i64 g1] 3)) fun e W' => ∃ r st4 kc4 calls4 F4, e = .returned (.int .i64 r) ∧ Hid (DgTo z w12 k d Bg st3 kc3 F3 (2 * 2 ^ m1) 2 st4 kc4 calls4 F4 W') ∧ Hid (Num st4 r (fun β => half high v false β && half high v true β))) := by
        refine (HD3.out.and2 HZ12.out.1 (by omega) (by omega) (by have := HRM.out; omega) HG0C.out.1 HG1C.out.1 (m := m1) (by omega) HG0C.out.2 HG1C.out.2).mono ?_
        rintro e W' ⟨r, st4, kc4, calls4, F4, rfl, q⟩
        exact ⟨r, st4, kc4, calls4, F4, rfl, q.out.1, q.out.2.1⟩
      have IA := ba.isop (fun β hb => by rw [Bool.and_eq_true] at hb; exact HIN.out.1 _ hb.2)
      have IB := bb.isop (fun β hb => by rw [Bool.and_eq_true] at hb; exact HIN.out.1 _ hb.2)
      have HIA := Lib.hid IA.lo
      have HIB := Lib.hid IB.lo
      clear IA IB
      have hleC : ∀ β, ((!fa β && half low v false β) || (!fb β && half low v true β)) = true → (half high v false β && half high v true β) = true := fun β hb => by
        rw [Bool.or_eq_true, Bool.and_eq_true, Bool.and_eq_true] at hb
        rw [Bool.and_eq_true]
        rcases hb with ⟨h2, h3⟩ | ⟨h2, h3⟩
        · refine ⟨HIN.out.1 _ h3, ?_⟩
          cases h4 : half high v true β with
          | true => rfl
          | false =>
            have := HIA.out β (by rw [h4, h3]; rfl)
            rw [this] at h2; cases h2
        · refine ⟨?_, HIN.out.1 _ h3⟩
          cases h4 : half high v false β with
          | true => rfl
          | false =>
            have := HIB.out β (by rw [h4, h3]; rfl)
            rw [this] at h2; cases h2
      have HE2 : Hid (∀ r st4 kc4 calls4 F4 W1, Hid (DgTo z w12 k d Bg st3 kc3 F3 (2 * 2 ^ m1) 2 st4 kc4 calls4 F4 W1) → Hid (Num st4 r (fun β => half high v false β && half high v true β)) → Calls Try.prog 37 #[.pointer (some ⟨d, 0, none⟩), .int .i64 q3, .int .i64 r] W1 fun e W' => ∃ ao cap rC bs st5 kc5 calls5 F5, e = .returned (.agg #[.slice ao C.length cap, .int .i64 rC]) ∧ Hid (DgTo z w12 k d Bg st3 kc3 F3 (2 * 2 ^ m1 + nc) (2 + cc) st5 kc5 calls5 F5 W') ∧ Hid (Num st5 rC fc ∧ Cb w12.heap.size W' F5 k (.slice ao C.length cap) C bs)) := fun r st4 kc4 calls4 F4 W1 t hr => by
        have hz1 : w12.heap.size ≤ W1.heap.size := t.out.mv.keeps.size
        have e1 := t.out.hn
        have e2 := t.out.hc
        refine (iC z W1 st4 kc4 calls4 F4 q3 r t.out.dg (Nat.le_trans HZ12.out.1 hz1) hleC (hq3.out.ext t.out.ext HD3.out.good) hr.out (by omega) (by have := HRM.out; omega)).mono ?_
        rintro e W' ⟨ao, cap, rA, bs, st2, kc2, calls2, F2, rfl, q⟩
        exact ⟨ao, cap, rA, bs, st2, kc2, calls2, F2, rfl, t.out.trans q.out.1, q.out.2.1, q.out.2.2.1.mono hz1, q.out.2.2.2⟩
      obtain ⟨nC, hnC⟩ : ∃ n, C.length = n := ⟨_, rfl⟩
      have HNC := Lib.hid hnC
      rw [hnC] at HE2
      obtain ⟨y0, y1⟩ := HG12.out.pair
      clear hnC hleC HIA HIB
      go_wp2_with fail
      refine HE1.out.mono ?_
      rintro e wF ⟨q4, st4, kc4, calls4, F4, rfl, ht4, hq4⟩
      go_wp2_with fail
      refine (HE2.out _ _ _ _ _ _ ht4 hq4).mono ?_
      rintro e wG ⟨aoC, capC, rC, bsC, st5, kc5, calls5, F5, rfl, ht5, hq5⟩
      clear HE1 HE2 ht4 hq4 y0 y1
      have hk13 : Keeps (fun _ => False) wG (wG.alloc (coverObj (.slice aoC nC capC) rC)) := (Keeps.refl _ _).alloc _
      have HT5 := Lib.hid (ht5.out.quiet hk13)
      have HBC := Lib.hid (blk_new ht5.out.lt (coverObj (.slice aoC nC capC) rC))
      have HNC5 : Hid (Num st5 rC fc) := hq5.out.1
      have HGEC : Hid (W.heap.size < wG.heap.size) := Nat.lt_of_lt_of_le (lt_of_heap HR12.out.1) ht5.out.mv.keeps.size
      have HCC := Lib.hid (hq5.out.2.quiet hk13)
      go_upto_region 12 with fail
      obtain ⟨cb2, hcb2⟩ : ∃ b, wG.heap.size = b := ⟨_, rfl⟩
      unfold coverObj at HT5 HBC HCC
      rw [hcb2] at HBC HGEC
      (try rw [hcb2])
      obtain ⟨w13, hw13⟩ : ∃ x, wG.alloc (.cells #[.slice aoC nC capC, .int .i64 rC] 70) = x := ⟨_, rfl⟩
      rw [hw13] at HT5 HBC HCC ⊢
      clear hw13 hcb2 hk13 ht5 hq5
      have e5 := HT5.out.hn
      have e6 := HT5.out.hc
      have hz13 : z ≤ w13.heap.size := Nat.le_trans HZ12.out.1 HT5.out.mv.keeps.size
      have HLI := Lib.hid (HT5.out.dg.lit hz13 (by omega) (by omega) (by have := HRM.out; omega) hv)
      go_upto_region 13 with (go_at_call 27; refine HLI.out.mono ?_; rintro e w14 ⟨lit, st6, kc6, calls6, F6, rfl, hlt6⟩)
      obtain ⟨n14, hn14⟩ : ∃ n, 0 + (2 ^ m1 + na) + (2 ^ m1 + nb) + 4 * 2 ^ m1 + (2 * 2 ^ m1 + nc) + 1 = n := ⟨_, rfl⟩
      obtain ⟨c14, hc14⟩ : ∃ n, 0 + (1 + ca) + (1 + cb) + 4 + (2 + cc) + 1 = n := ⟨_, rfl⟩
      have HB14 : Hid (B13 z W k d Bg st kc F n14 c14 W.heap.size ab eb cb2 w9.heap.size w10.heap.size w12.heap.size (.slice aoA nA capA) (.slice aoB nB capB) (.slice aoC nC capC) rA rB rC A B C bsA bsB bsC st6 kc6 calls6 F6 w14) := by
        rw [← hn14, ← hc14]
        exact ⟨(HTC.out.trans HT5.out).trans hlt6.out.1, (HR12.out.mv HT5.out.mv).mv hlt6.out.1.mv, (HBA12.out.mv HT5.out.mv).mv hlt6.out.1.mv, (HBB12.out.mv HT5.out.mv).mv hlt6.out.1.mv, (HBC.out : Blk w13 F5 cb2 (coverObj _ _)).mv hlt6.out.1.mv, (HCA12.out.mv HT5.out.mv).mv hlt6.out.1.mv, (HCB12.out.mv HT5.out.mv).mv hlt6.out.1.mv, HCC.out.mv hlt6.out.1.mv⟩
      have hg5 := HT5.out.dg.good
      have hg6 := hlt6.out.1.dg.good
      have hfc : ∀ w, w < v + 1 → Ind fc w := fun w hw => by
        have hl : ∀ so, Ind (half low v so) w := fun so => by
          by_cases e : w = v
          · subst e; exact half_ind _ _ _
          · exact half_other (HIN.out.2.1 w (by omega)).1 e so
        have hh : ∀ so, Ind (half high v so) w := fun so => by
          by_cases e : w = v
          · subst e; exact half_ind _ _ _
          · exact half_other (HIN.out.2.1 w (by omega)).2 e so
        exact (bc.ind w (by omega) (fun β s => by show ((!fa (putB β w s) && half low v false (putB β w s)) || (!fb (putB β w s) && half low v true (putB β w s))) = _; rw [hfa w hw, hfb w hw, hl, hl]) (fun β s => by show (half high v false (putB β w s) && half high v true (putB β w s)) = _; rw [hh, hh])).2
      have nA6 := (HNA12.out.ext HT5.out.ext HD3.out.good).ext hlt6.out.1.ext hg5
      have nB6 := (HNB12.out.ext HT5.out.ext HD3.out.good).ext hlt6.out.1.ext hg5
      have nC6 := HNC5.out.ext hlt6.out.1.ext hg5
      have HN6 : Hid ((Num st6 rA fa ∧ Late (k : Int) st6 (k - v) rA) ∧ (Num st6 rB fb ∧ Late (k : Int) st6 (k - v) rB) ∧ (Num st6 rC fc ∧ Late (k : Int) st6 (k - v) rC) ∧ Num st6 lit (fun β => β v) ∧ Late (k : Int) st6 (k - v) lit) :=
        ⟨⟨nA6, (late_of hg6 nA6 (q := v + 1) (by omega) hfa).mono (by omega)⟩, ⟨nB6, (late_of hg6 nB6 (q := v + 1) (by omega) hfb).mono (by omega)⟩, ⟨nC6, (late_of hg6 nC6 (q := v + 1) (by omega) hfc).mono (by omega)⟩, hlt6.out.2⟩
      have hlA : A.length ≤ 64 := Nat.le_trans (ba.isop (fun β hb => by rw [Bool.and_eq_true] at hb; exact HIN.out.1 _ hb.2)).len (Nat.le_trans (Nat.pow_le_pow_right (by omega) hk6) (by decide))
      have hlB : B.length ≤ 64 := Nat.le_trans (bb.isop (fun β hb => by rw [Bool.and_eq_true] at hb; exact HIN.out.1 _ hb.2)).len (Nat.le_trans (Nat.pow_le_pow_right (by omega) hk6) (by decide))
      have HLC : Hid (C.length ≤ 64) := by
        have IA := ba.isop (fun β hb => by rw [Bool.and_eq_true] at hb; exact HIN.out.1 _ hb.2)
        have IB := bb.isop (fun β hb => by rw [Bool.and_eq_true] at hb; exact HIN.out.1 _ hb.2)
        refine Nat.le_trans (bc.isop (fun β hb => ?_)).len (Nat.le_trans (Nat.pow_le_pow_right (by omega) hk6) (by decide))
        rw [Bool.or_eq_true, Bool.and_eq_true, Bool.and_eq_true] at hb
        rw [Bool.and_eq_true]
        rcases hb with ⟨h2, h3⟩ | ⟨h2, h3⟩
        · refine ⟨HIN.out.1 _ h3, ?_⟩
          cases h4 : half high v true β with
          | true => rfl
          | false =>
            have := IA.lo β (by rw [h4, h3]; rfl)
            rw [this] at h2; cases h2
        · refine ⟨?_, HIN.out.1 _ h3⟩
          cases h4 : half high v false β with
          | true => rfl
          | false =>
            have := IB.lo β (by rw [h4, h3]; rfl)
            rw [this] at h2; cases h2
      have HDJ : Hid ((∀ x, x ∈ bsA → ¬ cubFp (.slice aoB nB capB) bsB x) ∧ (∀ x, x ∈ bsA → ¬ cubFp (.slice aoC nC capC) bsC x) ∧ (∀ x, x ∈ bsB → ¬ cubFp (.slice aoA nA capA) bsA x) ∧ ∀ x, x ∈ bsB → ¬ cubFp (.slice aoC nC capC) bsC x) := by
        have z1 := HZ11.out.2.2.2
        have z2 := HZ12.out.2
        refine ⟨fun x hx hb => ?_, fun x hx hb => ?_, fun x hx hb => ?_, fun x hx hb => ?_⟩
        · have h1 := HLTA.out x (.inr hx)
          have h2 := HB14.out.cB.1.from x hb
          omega
        · have h1 := HLTA.out x (.inr hx)
          have h2 := HB14.out.cC.1.from x hb
          omega
        · have h1 := HB14.out.cB.1.ge x hx
          have h2 := HLTA.out x hb
          omega
        · have h1 := HLTB.out x (.inr hx)
          have h2 := HB14.out.cC.1.from x hb
          omega
      have hW9 := HZ11.out.2.1
      have hW10 : W.heap.size ≤ w10.heap.size := Nat.le_trans HZ11.out.2.1 HZ11.out.2.2.1
      have hW12 : W.heap.size ≤ w12.heap.size := Nat.le_trans hW10 (Nat.le_trans HZ11.out.2.2.2 HZ12.out.2)
      have hz14 : z ≤ w14.heap.size := Nat.le_trans hz HB14.out.gt.mv.keeps.size
      have hW14 : W.heap.size ≤ w14.heap.size := HB14.out.gt.mv.keeps.size
      have e7 := HB14.out.gt.hn
      have e8 := HB14.out.gt.hc
      clear HTC HT5 hlt6 HR12 HBA12 HBB12 HBC HCA12 HCB12 HCC HNA12 HNB12 HNC5 HD3 HG12 HG0C HG1C hg5 hg6 nA6 nB6 nC6 HLI HZ12 HLTA HLTB hfa hfb hfc hq3 e5 e6 hz13
      -- region 13
      have HS13 : Hid (∀ {n c : Nat} {LA LB : List (List Int)} {st1 : St} {kc1 : Nat} {calls1 : Int} {F1 : Nat → Prop} {W1 : World}, Hid (B13 z W k d Bg st kc F n c W.heap.size ab eb cb2 w9.heap.size w10.heap.size w12.heap.size (.slice aoA nA capA) (.slice aoB nB capB) (.slice aoC nC capC) rA rB rC LA LB C bsA bsB bsC st1 kc1 calls1 F1 W1) → (fun w' : World => w'.cell? ⟨ab, 0, none⟩ = some (.slice aoA nA capA) ∧ w'.cell? ⟨ab, 1, none⟩ = some (.int .i64 rA) ∧ w'.cell? ⟨eb, 0, none⟩ = some (.slice aoB nB capB) ∧ w'.cell? ⟨eb, 1, none⟩ = some (.int .i64 rB) ∧ w'.cell? ⟨cb2, 0, none⟩ = some (.slice aoC nC capC) ∧ w'.cell? ⟨cb2, 1, none⟩ = some (.int .i64 rC)) W1) := fun t =>
        ⟨t.out.ka.cover.1, t.out.ka.cover.2, t.out.ke.cover.1, t.out.ke.cover.2, t.out.kb.cover.1, t.out.kb.cover.2⟩
      have HF1 : Hid (∀ W1, Hid (B13 z W k d Bg st kc F n14 c14 W.heap.size ab eb cb2 w9.heap.size w10.heap.size w12.heap.size (.slice aoA nA capA) (.slice aoB nB capB) (.slice aoC nC capC) rA rB rC A B C bsA bsB bsC st6 kc6 calls6 F6 W1) → Calls Try.prog 57 #[.slice aoA nA capA, .int .i64 v, .int .i64 0] W1 fun e W' => e = .returned (.slice aoA nA capA) ∧ Hid (B13 z W k d Bg st kc F n14 c14 W.heap.size ab eb cb2 w9.heap.size w10.heap.size w12.heap.size (.slice aoA nA capA) (.slice aoB nB capB) (.slice aoC nC capC) rA rB rC (A.map fun c => c.set v 0) B C bsA bsB bsC st6 kc6 calls6 F6 W')) := fun W1 t => by
        refine (cwith_spec t.out.ca.1 (by omega) hv (by omega) 0).mono ?_
        rintro e W' ⟨rfl, q⟩
        exact ⟨rfl, t.out.withA hW9 q.out.1 q.out.2 HDJ.out.1 HDJ.out.2.1⟩
      have HF2 : Hid (∀ W1, Hid (B13 z W k d Bg st kc F n14 c14 W.heap.size ab eb cb2 w9.heap.size w10.heap.size w12.heap.size (.slice aoA nA capA) (.slice aoB nB capB) (.slice aoC nC capC) rA rB rC (A.map fun c => c.set v 0) B C bsA bsB bsC st6 kc6 calls6 F6 W1) → Calls Try.prog 57 #[.slice aoB nB capB, .int .i64 v, .int .i64 1] W1 fun e W' => e = .returned (.slice aoB nB capB) ∧ Hid (B13 z W k d Bg st kc F n14 c14 W.heap.size ab eb cb2 w9.heap.size w10.heap.size w12.heap.size (.slice aoA nA capA) (.slice aoB nB capB) (.slice aoC nC capC) rA rB rC (A.map fun c => c.set v 0) (B.map fun c => c.set v 1) C bsA bsB bsC st6 kc6 calls6 F6 W')) := fun W1 t => by
        refine (cwith_spec t.out.cB.1 (by omega) hv (by omega) 1).mono ?_
        rintro e W' ⟨rfl, q⟩
        exact ⟨rfl, t.out.withB hW10 q.out.1 q.out.2 HDJ.out.2.2.1 HDJ.out.2.2.2⟩
      obtain ⟨n4, hn4⟩ : ∃ n, nA + nB + nC = n := ⟨_, rfl⟩
      have HF3 : Hid (∀ W1, Hid (B13 z W k d Bg st kc F n14 c14 W.heap.size ab eb cb2 w9.heap.size w10.heap.size w12.heap.size (.slice aoA nA capA) (.slice aoB nB capB) (.slice aoC nC capC) rA rB rC (A.map fun c => c.set v 0) (B.map fun c => c.set v 1) C bsA bsB bsC st6 kc6 calls6 F6 W1) → Calls Try.prog 56 #[.slice (some ⟨W1.heap.size, 0, none⟩) 3 3] (W1.alloc (.cells #[.slice aoA nA capA, .slice aoB nB capB, .slice aoC nC capC] 31)) fun e W' => ∃ ao4 cap4, e = .returned (.slice ao4 n4 cap4) ∧ Hid (B13 z W k d Bg st kc F n14 c14 W.heap.size ab eb cb2 w9.heap.size w10.heap.size w12.heap.size (.slice aoA nA capA) (.slice aoB nB capB) (.slice aoC nC capC) rA rB rC (A.map fun c => c.set v 0) (B.map fun c => c.set v 1) C bsA bsB bsC st6 kc6 calls6 F6 W') ∧ Hid (OwnH W.heap.size W' F6 (.slice ao4 n4 cap4) n4 (hdrs k bsA ++ hdrs k bsB ++ hdrs k bsC))) := fun W1 t => by
        have hk1 : Keeps (fun _ => False) W1 (W1.alloc (.cells #[.slice aoA nA capA, .slice aoB nB capB, .slice aoC nC capC] 31)) := (Keeps.refl _ _).alloc _
        have hal := (MapKept.heap_alloc W1 (.cells #[.slice aoA nA capA, .slice aoB nB capB, .slice aoC nC capC] 31)).1
        have t2 := t.out.quiet hk1
        have lA := t2.ca.1.len
        have lB := t2.cB.1.len
        have lC := t2.cC.1.len
        rw [List.length_map] at lA lB
        have := HNA.out
        have := HNB.out
        have := HNC.out
        have := HLC.out
        refine (concat_spec (W := W1.alloc (.cells #[.slice aoA nA capA, .slice aoB nB capB, .slice aoC nC capC] 31)) (ga := W1.heap.size) (us := fun j => if j = 0 then .slice aoA nA capA else if j = 1 then .slice aoB nB capB else .slice aoC nC capC) (Hs := fun j => if j = 0 then hdrs k bsA else if j = 1 then hdrs k bsB else hdrs k bsC) (lt_of_heap hal) (fun j hj => ?_) (fun j hj => ?_) (fun j => ?_)).mono ?_
        · rw [cell_of_heap hal]
          match j, hj with
          | 0, _ => rfl
          | 1, _ => rfl
          | 2, _ => rfl
        · match j, hj with
          | 0, _ => exact t2.ca.1.readsV
          | 1, _ => exact t2.cB.1.readsV
          | 2, _ => exact t2.cC.1.readsV
        · show (if j = 0 then hdrs k bsA else if j = 1 then hdrs k bsB else hdrs k bsC).length ≤ 10000
          split
          · rw [hdrs_len]; omega
          · split <;> (rw [hdrs_len]; omega)
        · rintro e W' ⟨v4, rfl, q⟩
          have hs : sumL (fun j => if j = 0 then hdrs k bsA else if j = 1 then hdrs k bsB else hdrs k bsC) 3 = n4 := by
            show 0 + (hdrs k bsA).length + (hdrs k bsB).length + (hdrs k bsC).length = n4
            rw [hdrs_len, hdrs_len, hdrs_len]; omega
          have hc : catL (fun j => if j = 0 then hdrs k bsA else if j = 1 then hdrs k bsB else hdrs k bsC) 3 = (hdrs k bsA ++ hdrs k bsB ++ hdrs k bsC) := by
            show [] ++ hdrs k bsA ++ hdrs k bsB ++ hdrs k bsC = _
            rw [List.nil_append]
          have q1 := q.out.1
          rw [hs, hc] at q1
          obtain ⟨ao4, cap4, rfl, _⟩ := own_form q1
          refine ⟨ao4, cap4, rfl, t2.quiet q.out.2, ?_, fun x hx hf => ?_⟩
          · obtain ⟨p1, p2 | ⟨g, cap, cur, e, hg, r⟩⟩ := q1
            · exact ⟨p1, .inl p2⟩
            · exact ⟨p1, .inr ⟨g, cap, cur, e, Nat.le_trans t.out.gt.mv.keeps.size (Nat.le_trans hk1.size hg), r⟩⟩
          · have p1 := (q1.lt x hx).1
            have p2 := t.out.gt.lt x hf
            have := hk1.size
            omega
      have HF4 : Hid (∀ ao4 cap4 W1, Hid (B13 z W k d Bg st kc F n14 c14 W.heap.size ab eb cb2 w9.heap.size w10.heap.size w12.heap.size (.slice aoA nA capA) (.slice aoB nB capB) (.slice aoC nC capC) rA rB rC (A.map fun c => c.set v 0) (B.map fun c => c.set v 1) C bsA bsB bsC st6 kc6 calls6 F6 W1) → Hid (OwnH W.heap.size W1 F6 (.slice ao4 n4 cap4) n4 (hdrs k bsA ++ hdrs k bsB ++ hdrs k bsC)) → Calls Try.prog 29 #[.pointer (some ⟨d, 0, none⟩), .int .i64 lit, .int .i64 rB, .int .i64 rA] W1 fun e W' => ∃ r st7 kc7 calls7 F7, e = .returned (.int .i64 r) ∧ Hid (B13 z W k d Bg st kc F (n14 + 2 ^ (k - v)) (c14 + 1) W.heap.size ab eb cb2 w9.heap.size w10.heap.size w12.heap.size (.slice aoA nA capA) (.slice aoB nB capB) (.slice aoC nC capC) rA rB rC (A.map fun c => c.set v 0) (B.map fun c => c.set v 1) C bsA bsB bsC st7 kc7 calls7 F7 W') ∧ Hid (OwnH W.heap.size W' F7 (.slice ao4 n4 cap4) n4 (hdrs k bsA ++ hdrs k bsB ++ hdrs k bsC)) ∧ Hid ((Num st7 r (fun β => if β v then fb β else fa β) ∧ Late (k : Int) st7 (k - v) r) ∧ Num st7 rC fc ∧ Late (k : Int) st7 (k - v) rC)) := fun ao4 cap4 W1 t ho => by
        refine (t.out.gt.dg.ite (Nat.le_trans hz t.out.gt.mv.keeps.size) (by omega) (by omega) (by have := HRM.out; omega) HN6.out.2.2.2.1 HN6.out.2.1.1 HN6.out.1.1 HN6.out.2.2.2.2 HN6.out.2.1.2 HN6.out.1.2).mono ?_
        rintro e W' ⟨r, st7, kc7, calls7, F7, rfl, q⟩
        exact ⟨r, st7, kc7, calls7, F7, rfl, t.out.mv q.out.1, ho.out.mv q.out.1.mv, q.out.2, HN6.out.2.2.1.1.ext q.out.1.ext t.out.gt.dg.good, HN6.out.2.2.1.2.ext q.out.1.ext HN6.out.2.2.1.1.is⟩
      have HF5 : Hid (∀ ao4 cap4 r st7 kc7 calls7 F7 W1, Hid (B13 z W k d Bg st kc F (n14 + 2 ^ (k - v)) (c14 + 1) W.heap.size ab eb cb2 w9.heap.size w10.heap.size w12.heap.size (.slice aoA nA capA) (.slice aoB nB capB) (.slice aoC nC capC) rA rB rC (A.map fun c => c.set v 0) (B.map fun c => c.set v 1) C bsA bsB bsC st7 kc7 calls7 F7 W1) → Hid (OwnH W.heap.size W1 F7 (.slice ao4 n4 cap4) n4 (hdrs k bsA ++ hdrs k bsB ++ hdrs k bsC)) → Hid ((Num st7 r (fun β => if β v then fb β else fa β) ∧ Late (k : Int) st7 (k - v) r) ∧ Num st7 rC fc ∧ Late (k : Int) st7 (k - v) rC) → Calls Try.prog 33 #[.pointer (some ⟨d, 0, none⟩), .slice (some ⟨W1.heap.size, 0, none⟩) 2 2] (W1.alloc (.cells #[.int .i64 r, .int .i64 rC] 3)) fun e W' => ∃ r2 st8 kc8 calls8 F8, e = .returned (.int .i64 r2) ∧ Hid (B13 z W k d Bg st kc F (n14 + 2 ^ (k - v) + 2 * 2 ^ (k - v)) (c14 + 1 + 2) W.heap.size ab eb cb2 w9.heap.size w10.heap.size w12.heap.size (.slice aoA nA capA) (.slice aoB nB capB) (.slice aoC nC capC) rA rB rC (A.map fun c => c.set v 0) (B.map fun c => c.set v 1) C bsA bsB bsC st8 kc8 calls8 F8 W') ∧ Hid (OwnH W.heap.size W' F8 (.slice ao4 n4 cap4) n4 (hdrs k bsA ++ hdrs k bsB ++ hdrs k bsC)) ∧ Hid (Num st8 r2 (fun β => (if β v then fb β else fa β) || fc β))) := fun ao4 cap4 r st7 kc7 calls7 F7 W1 t ho hn => by
        have e9 := t.out.gt.hn
        have e10 := t.out.gt.hc
        refine (t.out.gt.dg.or2 (Nat.le_trans hz t.out.gt.mv.keeps.size) (by omega) (by omega) (by have := HRM.out; omega) hn.out.1.1 hn.out.2.1 (m := k - v) (by omega) hn.out.1.2 hn.out.2.2).mono ?_
        rintro e W' ⟨r2, st8, kc8, calls8, F8, rfl, q⟩
        exact ⟨r2, st8, kc8, calls8, F8, rfl, t.out.mv q.out.1, ho.out.mv q.out.1.mv, q.out.2.1⟩
      have hB0 : Hid (B13 z W k d Bg st kc F n14 c14 W.heap.size ab eb cb2 w9.heap.size w10.heap.size w12.heap.size (.slice aoA nA capA) (.slice aoB nB capB) (.slice aoC nC capC) rA rB rC A B C bsA bsB bsC st6 kc6 calls6 F6 w14.drew) := HB14.out.quiet ((Keeps.refl _ _).drew)
      have hS0 := HS13.out hB0
      have HS9 : Hid (∀ {n c : Nat} {LA LB : List (List Int)} {st1 : St} {kc1 : Nat} {calls1 : Int} {F1 : Nat → Prop} {W1 : World} (u : Value) (r : Int), Hid (B13 z W k d Bg st kc F n c W.heap.size ab eb cb2 w9.heap.size w10.heap.size w12.heap.size (.slice aoA nA capA) (.slice aoB nB capB) (.slice aoC nC capC) rA rB rC LA LB C bsA bsB bsC st1 kc1 calls1 F1 W1) → (fun w' : World => w'.cell? ⟨ab, 0, none⟩ = some (.slice aoA nA capA) ∧ w'.cell? ⟨ab, 1, none⟩ = some (.int .i64 rA) ∧ w'.cell? ⟨eb, 0, none⟩ = some (.slice aoB nB capB) ∧ w'.cell? ⟨eb, 1, none⟩ = some (.int .i64 rB) ∧ w'.cell? ⟨cb2, 0, none⟩ = some (.slice aoC nC capC) ∧ w'.cell? ⟨cb2, 1, none⟩ = some (.int .i64 rC)) ((W1.setCell ⟨W.heap.size, 0, none⟩ u).setCell ⟨W.heap.size, 1, none⟩ (.int .i64 r))) := fun {n c LA LB st1 kc1 calls1 F1 W1} u r t => by
        have hk : Keeps (fun x => x = W.heap.size) W1 ((W1.setCell ⟨W.heap.size, 0, none⟩ u).setCell ⟨W.heap.size, 1, none⟩ (.int .i64 r)) := (Keeps.setCell (S := fun x => x = W.heap.size) (Keeps.refl _ W1) (p := ⟨W.heap.size, 0, none⟩) (fun _ => rfl) _).trans (Keeps.setCell (S := fun x => x = W.heap.size) (Keeps.refl _ _) (p := ⟨W.heap.size, 1, none⟩) (fun _ => rfl) _)
        have q1 := HRLT.out
        have q2 := HGEA.out
        have q3 := HGEB.out
        have q4 := HGEC.out
        have q5 := HZ11.out.2.2.1
        have ka2 : Blk _ F1 ab (coverObj (.slice aoA nA capA) rA) := ⟨(hk.block _ (lt_of_heap t.out.ka.1) (by omega)).trans t.out.ka.1, t.out.ka.2⟩
        have ke2 : Blk _ F1 eb (coverObj (.slice aoB nB capB) rB) := ⟨(hk.block _ (lt_of_heap t.out.ke.1) (by omega)).trans t.out.ke.1, t.out.ke.2⟩
        have kb2 : Blk _ F1 cb2 (coverObj (.slice aoC nC capC) rC) := ⟨(hk.block _ (lt_of_heap t.out.kb.1) (by omega)).trans t.out.kb.1, t.out.kb.2⟩
        exact ⟨ka2.cover.1, ka2.cover.2, ke2.cover.1, ke2.cover.2, kb2.cover.1, kb2.cover.2⟩
      go_region_held3 (fun w' : World => w'.cell? ⟨ab, 0, none⟩ = some (.slice aoA nA capA) ∧ w'.cell? ⟨ab, 1, none⟩ = some (.int .i64 rA) ∧ w'.cell? ⟨eb, 0, none⟩ = some (.slice aoB nB capB) ∧ w'.cell? ⟨eb, 1, none⟩ = some (.int .i64 rB) ∧ w'.cell? ⟨cb2, 0, none⟩ = some (.slice aoC nC capC) ∧ w'.cell? ⟨cb2, 1, none⟩ = some (.int .i64 rC)) (first | exact hS0 | exact HS13.out (by assumption) | exact HS13.out (Lib.hid (hb2.out.quiet ((Keeps.refl _ _).alloc _))) | exact HS13.out (Lib.hid (hb4.out.quiet ((Keeps.refl _ _).alloc _))) | exact hS9) (first | (go_at_call_of 57 (Value.slice aoA nA capA); refine (HF1.out _ hB0).mono ?_; rintro e wP ⟨rfl, hb1⟩) | (go_at_call 57; refine (HF2.out _ hb1).mono ?_; rintro e wQ ⟨rfl, hb2⟩) | (go_at_call 56; refine (HF3.out _ hb2).mono ?_; rintro e wR ⟨ao4, cap4, rfl, hb3, ho3⟩) | (go_at_call 29; refine (HF4.out _ _ _ hb3 ho3).mono ?_; rintro e wS ⟨r7, st7, kc7, calls7, F7, rfl, hb4, ho4, hn7⟩) | (go_at_call 33; refine (HF5.out _ _ _ _ _ _ _ _ hb4 ho4 hn7).mono ?_; rintro e wT ⟨r8, st8, kc8, calls8, F8, rfl, hb5, ho5, hn8⟩; obtain ⟨zr0, zr1⟩ := hb5.out.kr.cover; have fr0 := free_of_heap hb5.out.kr.1 0; have fr1 := free_of_heap hb5.out.kr.1 1; have lr := lt_of_heap hb5.out.kr.1; have hS9 := HS9.out (.slice ao4 n4 cap4) r8 hb5))
      have hkz : Keeps (fun x => x = W.heap.size) wT ((wT.setCell ⟨W.heap.size, 0, none⟩ (.slice ao4 n4 cap4)).setCell ⟨W.heap.size, 1, none⟩ (.int .i64 r8)) := (Keeps.setCell (S := fun x => x = W.heap.size) (Keeps.refl _ wT) (p := ⟨W.heap.size, 0, none⟩) (fun _ => rfl) _).trans (Keeps.setCell (S := fun x => x = W.heap.size) (Keeps.refl _ _) (p := ⟨W.heap.size, 1, none⟩) (fun _ => rfl) _)
      have hz6 : ((wT.setCell ⟨W.heap.size, 0, none⟩ (.slice ao4 n4 cap4)).setCell ⟨W.heap.size, 1, none⟩ (.int .i64 r8)).heap[W.heap.size]? = some (coverObj (.slice ao4 n4 cap4) r8) := by
        have := hb5.out.kr.1
        unfold coverObj at this ⊢
        rw [heap_set (heap_set this 0 _) 1 _]; rfl
      have hlen : ((A.map fun c => c.set v 0) ++ (B.map fun c => c.set v 1) ++ C).length = n4 := by
        rw [List.length_append, List.length_append, List.length_map, List.length_map, HNA.out, HNB.out, HNC.out, hn4]
      have hcb := hb5.out.all ho5.out (z5 := W.heap.size) hW9 hW10 hW12 (Nat.le_refl _) HDJ.out.1 HDJ.out.2.1 HDJ.out.2.2.2
      have hne := hcb.ne hb5.out.kr.1 (by decide) (by decide)
      have HFIN : Hid (DgTo z W k d Bg st kc F (na + nb + nc + 8 * 2 ^ (k - v)) (ca + cb + cc + 12) st8 kc8 calls8 F8 ((wT.setCell ⟨W.heap.size, 0, none⟩ (.slice ao4 n4 cap4)).setCell ⟨W.heap.size, 1, none⟩ (.int .i64 r8)) ∧ Num st8 r8 (fun β => (if β v then fb β else fa β) || fc β) ∧ Cb W.heap.size ((wT.setCell ⟨W.heap.size, 0, none⟩ (.slice ao4 n4 cap4)).setCell ⟨W.heap.size, 1, none⟩ (.int .i64 r8)) F8 k (.slice ao4 n4 cap4) ((A.map fun c => c.set v 0) ++ (B.map fun c => c.set v 1) ++ C) (bsA ++ bsB ++ bsC)) :=
        ⟨(hb5.out.gt.store hkz (fun x hx => by subst hx; exact ⟨Nat.le_refl _, hb5.out.kr.2⟩)).more (by rw [← hn14]; omega) (by rw [← hc14]; omega), hn8.out, hcb.1.keeps hkz (fun x hx e => hne (e ▸ hx)), hcb.2⟩
      generalize ((wT.setCell ⟨W.heap.size, 0, none⟩ (.slice ao4 n4 cap4)).setCell ⟨W.heap.size, 1, none⟩ (.int .i64 r8)) = w6 at HFIN hz6 ⊢
      unfold coverObj at hz6
      have z0 := cell_of_heap hz6 0
      have z1 := cell_of_heap hz6 1
      simp only [List.getElem?_toArray, List.getElem?_cons_zero, List.getElem?_cons_succ] at z0 z1
      clear hb1 hb2 hb3 hb4 hb5 ho3 ho4 ho5 hn7 hn8 zr0 zr1 fr0 fr1 lr hS9 HS9 HS13 HF1 HF2 HF3 HF4 HF5 hB0 hS0 HB14 hcb hne hkz hz6 iA iB iC ba bb bc
      go_wp2_with fail
      refine bodyPost_ret (v := .agg #[.slice ao4 n4 cap4, .int .i64 r8]) (by simp [results, Try.results37, go_sem, *]) rfl ?_
      refine ⟨ao4, cap4, r8, bsA ++ bsB ++ bsC, st8, kc8, calls8, F8, ?_, ?_⟩
      · rw [hlen]
      · rw [hlen]; exact HFIN
end
end Go.Proofs.Ytloidoekmicloaa
