/-
  A diagram where a variable is so: what each step of it comes to. No program in sight.
-/
import Derived.Test.YtloidoekmicloaaOrdMovePlain
set_option linter.unusedVariables false
set_option linter.unusedSimpArgs false
set_option linter.unnecessarySimpa false
namespace Go.Proofs.Ytloidoekmicloaa
open Go.ChangeShapes Go.WideShapes Go.ChangeAt Go.RowKit Go.Deep NodePlain
/-- A diagram hangs on its own variable and those behind it alone. -/
theorem ev_from {V : Int} {L : Nat → Nd} {n : Nat} (g : NodePlain.Good V L n) {b1 b2 : Nat → Bool} {w : Int} (hb : ∀ x : Nat, w ≤ x → b1 x = b2 x) : ∀ (f : Nat) (k : Int), k < f → k < n + 2 → w ≤ varN V L n k → ev L b1 k = ev L b2 k := by
  intro f
  induction f with
  | zero => intro k h0 _ _; rw [ev_low L b1 k (by omega), ev_low L b2 k (by omega)]
  | succ f ih =>
    intro k hk hn hw
    by_cases h2 : 2 ≤ k
    · obtain ⟨m, rfl⟩ : ∃ m : Nat, k = m + 2 := ⟨(k - 2).toNat, by omega⟩
      have hm : m < n := by omega
      obtain ⟨p1, p2, p3, p4, p5, p6, p7, p8, _⟩ := g.node m hm
      rw [var_node hm] at hw
      rw [ev_node g b1 m hm, ev_node g b2 m hm, hb _ (by omega), ih _ (by omega) (by omega) (by omega), ih _ (by omega) (by omega) (by omega)]
    · rw [ev_low L b1 k (by omega), ev_low L b2 k (by omega)]
def putB (β : Nat → Bool) (v : Int) (so : Bool) : Nat → Bool := fun i => if (i : Int) = v then so else β i
theorem putB_same {β : Nat → Bool} {v : Int} {so : Bool} {i : Nat} (h : (i : Int) = v) : putB β v so i = so := by unfold putB; rw [if_pos h]
theorem putB_other {β : Nat → Bool} {v : Int} {so : Bool} {i : Nat} (h : (i : Int) ≠ v) : putB β v so i = β i := by unfold putB; rw [if_neg h]
theorem ev_above {V : Int} {L : Nat → Nd} {n : Nat} (g : NodePlain.Good V L n) {v : Int} {so : Bool} {f : Int} (hf : isN n f = true) (h : v < varN V L n f) (β : Nat → Bool) : ev L (putB β v so) f = ev L β f := by
  rw [isN_iff] at hf
  exact ev_from g (w := v + 1) (fun x hx => putB_other (by omega)) (f.toNat + 1) f (by omega) (by omega) (by omega)
/-- What was found is right. -/
structure RSound (V v : Int) (so : Bool) (st : St) (K : Int → Option Int) : Prop where
  at_ : ∀ g m, K g = some m → isN st.n g = true ∧ isN st.n m = true ∧ varN V st.L st.n g ≤ varN V st.L st.n m ∧ ∀ β, ev st.L β m = ev st.L (putB β v so) g
theorem RSound.ext {V v : Int} {so : Bool} {st st' : St} {K : Int → Option Int} (h : RSound V v so st K) (gd : NodePlain.Good V st.L st.n) (e : Ext st.L st.n st'.L st'.n) : RSound V v so st' K :=
  ⟨fun g m hg => by
    obtain ⟨a, b, c, d⟩ := h.at_ g m hg
    refine ⟨e.is a, e.is b, ?_, fun β => ?_⟩
    · rw [e.var (isN_iff.1 a).2, e.var (isN_iff.1 b).2]; exact c
    · rw [e.ev gd β (isN_iff.1 b).2, e.ev gd _ (isN_iff.1 a).2]; exact d β⟩
theorem RSound.put {V v : Int} {so : Bool} {st : St} {K : Int → Option Int} (h : RSound V v so st K) {f x : Int} (hf : isN st.n f = true) (hx : isN st.n x = true) (hv : varN V st.L st.n f ≤ varN V st.L st.n x) (he : ∀ β, ev st.L β x = ev st.L (putB β v so) f) : RSound V v so st (setK K f x) :=
  ⟨fun g m hg => by
    unfold setK at hg
    by_cases e : g = f
    · rw [if_pos e] at hg
      simp only [Option.some.injEq] at hg
      subst hg e
      exact ⟨hf, hx, hv, he⟩
    · rw [if_neg e] at hg
      exact h.at_ g m hg⟩
/-- What a look leaves. -/
structure RsRel (V B v : Int) (so : Bool) (st : St) (f x : Int) (st' : St) (K' : Int → Option Int) : Prop where
  ok : Ok V st'
  hits : st'.hits = st.hits
  n : st'.n ≤ st.n + costN V (varN V st.L st.n f)
  ext : Ext st.L st.n st'.L st'.n
  bnd : st'.n ≤ B ∧ (st'.s = true → B ≤ st'.n)
  isx : isN st'.n x = true
  var : varN V st.L st.n f ≤ varN V st'.L st'.n x
  ev : ∀ β, ev st'.L β x = ev st.L (putB β v so) f
  snd : RSound V v so st' K'
section
variable {V B v : Int} {so : Bool} {st : St} {K : Int → Option Int}
theorem rs_known {f x : Int} (w : Ok V st) (hb : st.n ≤ B ∧ (st.s = true → B ≤ st.n)) (h : RSound V v so st K) (hf : K f = some x) : RsRel V B v so st f x st K := by
  obtain ⟨a, b, c, d⟩ := h.at_ f x hf
  exact ⟨w, rfl, Nat.le_add_right _ _, Ext.refl _ _, hb, b, c, d, h⟩
theorem rs_self {f : Int} (w : Ok V st) (hb : st.n ≤ B ∧ (st.s = true → B ≤ st.n)) (h : RSound V v so st K) (hf : isN st.n f = true) (hv : f < 2 ∨ v < varN V st.L st.n f) : RsRel V B v so st f f st K := by
  refine ⟨w, rfl, Nat.le_add_right _ _, Ext.refl _ _, hb, hf, Int.le_refl _, fun β => ?_, h⟩
  rcases hv with hv | hv
  · rw [ev_low _ _ _ hv, ev_low _ _ _ hv]
  · exact (ev_above w.good hf hv β).symm
theorem rs_eq (w : Ok V st) (hb : st.n ≤ B ∧ (st.s = true → B ≤ st.n)) (h : RSound V v so st K) {i : Nat} (hi : i < st.n) {lo hi' : Int} (hL : st.L i = (v, lo, hi')) : RsRel V B v so st ((i : Int) + 2) (if so then hi' else lo) st (setK K ((i : Int) + 2) (if so then hi' else lo)) := by
  obtain ⟨p1, p2, p3, p4, p5, p6, p7, p8, p9⟩ := w.good.node i hi
  have hn := ev_node w.good
  have hvar := var_node (V := V) (L := st.L) hi
  rw [hL] at p1 p2 p3 p4 p5 p6 p7 p8 p9 hvar
  simp only [] at p1 p2 p3 p4 p5 p6 p7 p8 p9 hvar
  have hf : isN st.n ((i : Int) + 2) = true := isN_iff.2 ⟨by omega, by omega⟩
  have ix : isN st.n (if so then hi' else lo) = true := by
    split
    · exact isN_iff.2 ⟨p5, by omega⟩
    · exact isN_iff.2 ⟨p3, by omega⟩
  have vx : v < varN V st.L st.n (if so then hi' else lo) := by split <;> omega
  have ex : ∀ β, ev st.L β (if so then hi' else lo) = ev st.L (putB β v so) ((i : Int) + 2) := fun β => by
    rw [hn _ i hi, hL]
    simp only []
    rw [putB_same (Int.toNat_of_nonneg p1)]
    have := ev_above w.good (so := so) ix vx β
    rw [← this]
    cases so <;> rfl
  exact ⟨w, rfl, Nat.le_add_right _ _, Ext.refl _ _, hb, ix, by rw [hvar]; omega, ex, h.put hf ix (by rw [hvar]; omega) ex⟩
/-- A node made. -/
theorem make_more (hok : Ok V st) (hb : st.n ≤ B ∧ (st.s = true → B ≤ st.n)) {u lo hi : Int} (hf : fitN V st.L st.n u lo hi = true) (room : ((st.n + 1 : Nat) : Int) < B) :
    Ok V (makeM V B st u lo hi).2 ∧ (makeM V B st u lo hi).2.hits = st.hits ∧ (makeM V B st u lo hi).2.n ≤ st.n + 1 ∧ Ext st.L st.n (makeM V B st u lo hi).2.L (makeM V B st u lo hi).2.n ∧ ((makeM V B st u lo hi).2.n ≤ B ∧ ((makeM V B st u lo hi).2.s = true → B ≤ (makeM V B st u lo hi).2.n)) ∧ isN (makeM V B st u lo hi).2.n (makeM V B st u lo hi).1 = true ∧
      u ≤ varN V (makeM V B st u lo hi).2.L (makeM V B st u lo hi).2.n (makeM V B st u lo hi).1 ∧ ∀ β, ev (makeM V B st u lo hi).2.L β (makeM V B st u lo hi).1 = if β u.toNat then ev st.L β hi else ev st.L β lo := by
  have hbm := makeM_bnd (V := V) (B := B) st u lo hi hb
  have hn := makeM_few (V := V) (B := B) st u lo hi
  have hs : (makeM V B st u lo hi).2.s = false := by
    cases e : (makeM V B st u lo hi).2.s with
    | false => rfl
    | true => have := hbm.2 e; omega
  obtain ⟨m1, m2, m3, m4, m5⟩ := make_ok (B := B) hok.good hf
  have hs2 : (resN V B st.L st.n u lo hi).out false = false := by
    have hs1 : (resN V B st.L st.n u lo hi).out st.s = false := hs
    revert hs1
    cases resN V B st.L st.n u lo hi <;> simp [Res.out]
  obtain ⟨m6, m7⟩ := m5 hs2
  exact ⟨⟨m1, fun i f g h x hx => (hok.cache i f g h x hx).ext m2 hok.good⟩, rfl, hn, m2, hbm, m4, m6, m7⟩
theorem rs_join (hV0 : 0 ≤ V) (w : Ok V st) {i : Nat} (hi : i < st.n) {u : Nat} {lo hi' x y : Int} (hL : st.L i = ((u : Int), lo, hi')) (huv : (u : Int) < v) {s1 s2 : St} {K1 K2 : Int → Option Int}
    (r1 : RsRel V B v so st lo x s1 K1) (r2 : RsRel V B v so s1 hi' y s2 K2) (room : ((st.n + costN V u : Nat) : Int) < B) {r : Int × St} (hr : makeM V B s2 u x y = r) :
    fitN V s2.L s2.n u x y = true ∧ s2.n + 1 ≤ st.n + costN V u ∧ RsRel V B v so st ((i : Int) + 2) r.1 r.2 (setK K2 ((i : Int) + 2) r.1) := by
  subst hr
  obtain ⟨p1, p2, p3, p4, p5, p6, p7, p8, p9⟩ := w.good.node i hi
  have hn := ev_node w.good
  have hvar := var_node (V := V) (L := st.L) hi
  rw [hL] at p1 p2 p3 p4 p5 p6 p7 p8 p9 hvar
  simp only [] at p1 p2 p3 p4 p5 p6 p7 p8 p9 hvar
  have hc := cost_step p2 p7 p8
  have hvy : varN V s1.L s1.n hi' = varN V st.L st.n hi' := r1.ext.var (by omega)
  have n1 := r1.n
  have n2 := r2.n
  rw [hvy] at n2
  have ix : isN s2.n x = true := r2.ext.is r1.isx
  have vx : (u : Int) < varN V s2.L s2.n x := by
    rw [r2.ext.var (isN_iff.1 r1.isx).2]
    have := r1.var
    omega
  have vy : (u : Int) < varN V s2.L s2.n y := by
    have := r2.var
    rw [hvy] at this
    omega
  have hfit : fitN V s2.L s2.n u x y = true := fitN_iff.2 ⟨p1, p2, isN_iff.1 ix, isN_iff.1 r2.isx, vx, vy⟩
  obtain ⟨m1, m2, m3, m4, m5, m6, m7, m8⟩ := make_more (B := B) r2.ok r2.bnd hfit (by omega)
  have e04 := (r1.ext.trans r2.ext).trans m4
  have hf : isN st.n ((i : Int) + 2) = true := isN_iff.2 ⟨by omega, by omega⟩
  have hev : ∀ β, ev (makeM V B s2 u x y).2.L β (makeM V B s2 u x y).1 = ev st.L (putB β v so) ((i : Int) + 2) := fun β => by
    have a1 : ev s2.L β y = ev st.L (putB β v so) hi' := by
      rw [r2.ev β, r1.ext.ev w.good _ (by omega)]
    have a2 : ev s2.L β x = ev st.L (putB β v so) lo := by
      rw [r2.ext.ev r1.ok.good β (isN_iff.1 r1.isx).2, r1.ev β]
    rw [m8 β, a1, a2, hn _ i hi, hL]
    simp only [Int.toNat_natCast]
    rw [putB_other (show (u : Int) ≠ v by omega)]
  refine ⟨hfit, by omega, m1, by rw [m2, r2.hits, r1.hits], by rw [hvar]; omega, e04, m5, m6, by rw [hvar]; exact m7, hev, ?_⟩
  refine ((r2.snd).ext r2.ok.good m4).put (e04.is hf) m6 (by rw [e04.var (isN_iff.1 hf).2, hvar]; exact m7) fun β => ?_
  rw [e04.ev w.good _ (isN_iff.1 hf).2]
  exact hev β
end
end Go.Proofs.Ytloidoekmicloaa
