/-
  A diagram by variables in another order: what each step of it comes to. No program in sight.
-/
import Derived.Test.YtloidoekmicloaaMF
import Derived.Test.YtloidoekmicloaaMapInt
set_option linter.unusedVariables false
set_option linter.unusedSimpArgs false
set_option linter.unnecessarySimpa false
namespace Go.Proofs.Ytloidoekmicloaa
open Go.ChangeShapes Go.WideShapes Go.ChangeAt Go.RowKit Go.Deep NodePlain
/-- How many nodes are looked at, at most, below a variable. -/
def costN (V v : Int) : Nat := 2 ^ (V - v).toNat - 1
theorem cost_step {V v a b : Int} (hv : v < V) (ha : v < a) (hb : v < b) : costN V a + costN V b + 1 ≤ costN V v := by
  unfold costN
  have h1 : 2 ^ (V - a).toNat ≤ 2 ^ ((V - v).toNat - 1) := Nat.pow_le_pow_right (by omega) (by omega)
  have h2 : 2 ^ (V - b).toNat ≤ 2 ^ ((V - v).toNat - 1) := Nat.pow_le_pow_right (by omega) (by omega)
  have h3 : 2 ^ (V - v).toNat = 2 ^ ((V - v).toNat - 1) + 2 ^ ((V - v).toNat - 1) := by
    rw [← Nat.mul_two, ← Nat.pow_succ]
    congr 1
    omega
  have h4 : 1 ≤ 2 ^ (V - a).toNat := Nat.one_le_two_pow
  have h5 : 1 ≤ 2 ^ (V - b).toNat := Nat.one_le_two_pow
  omega
theorem cost_all {V v : Int} (hV : V ≤ 8) (hv : 0 ≤ v) : costN V v ≤ 255 := by
  unfold costN
  have : 2 ^ (V - v).toNat ≤ 2 ^ 8 := Nat.pow_le_pow_right (by omega) (by omega)
  omega
/-- What was found is right. -/
structure KSound (P : Nat → Nat) (st : St) (K : Int → Option Int) : Prop where
  z : K 0 = some 0
  o : K 1 = some 1
  at_ : ∀ g m, K g = some m → isN st.n g = true ∧ isN st.n m = true ∧ ∀ β, ev st.L β m = ev st.L (fun v => β (P v)) g
theorem KSound.ext {P : Nat → Nat} {V : Int} {st st' : St} {K : Int → Option Int} (h : KSound P st K) (gd : NodePlain.Good V st.L st.n) (e : Ext st.L st.n st'.L st'.n) : KSound P st' K :=
  ⟨h.z, h.o, fun g m hg => by
    obtain ⟨a, b, c⟩ := h.at_ g m hg
    exact ⟨e.is a, e.is b, fun β => by rw [e.ev gd β (isN_iff.1 b).2, e.ev gd _ (isN_iff.1 a).2]; exact c β⟩⟩
/-- What a look leaves. -/
structure MvRel (V B : Int) (P : Nat → Nat) (st : St) (kc : Nat) (f x : Int) (st' : St) (kc' : Nat) (K' : Int → Option Int) : Prop where
  wf : Wf V st' kc'
  kc : kc' ≤ kc + 2 * costN V (varN V st.L st.n f)
  n : st'.n ≤ st.n + 2 ^ V.toNat * costN V (varN V st.L st.n f)
  ext : Ext st.L st.n st'.L st'.n
  bnd : st'.n ≤ B ∧ (st'.s = true → B ≤ st'.n)
  isx : isN st'.n x = true
  ev : ∀ β, ev st'.L β x = ev st.L (fun v => β (P v)) f
  snd : KSound P st' K'
section
variable {V B : Int} {P : Nat → Nat} {st : St} {kc : Nat} {K : Int → Option Int}
theorem mv_known {f x : Int} (w : Wf V st kc) (hb : st.n ≤ B ∧ (st.s = true → B ≤ st.n)) (h : KSound P st K) (hf : K f = some x) : MvRel V B P st kc f x st kc K := by
  obtain ⟨a, b, c⟩ := h.at_ f x hf
  exact ⟨w, Nat.le_add_right _ _, Nat.le_add_right _ _, Ext.refl _ _, hb, b, c, h⟩
/-- Both halves, the variable there, and all together. -/
theorem mv_join (hV0 : 0 ≤ V) (hV : V ≤ 8) {k : Nat} (hk : V = (k : Int)) (w : Wf V st kc) {i : Nat} (hi : i < st.n) {v : Nat} {lo hi' x y : Int} (hL : st.L i = ((v : Int), lo, hi')) (hPv : P v < k) {s1 s2 : St} {k1 k2 : Nat} {K1 K2 : Int → Option Int}
    (r1 : MvRel V B P st kc lo x s1 k1 K1) (r2 : MvRel V B P s1 k1 hi' y s2 k2 K2) (hB : ((st.n + 2 ^ V.toNat * costN V v : Nat) : Int) < B) :
    let s3 := (opG s2 (makeM V B s2 (P v) 0 1)).2
    let z := (opG s2 (makeM V B s2 (P v) 0 1)).1
    let s4 := (opG s3 (iteT V B s3 z y x)).2
    let u := (opG s3 (iteT V B s3 z y x)).1
    (v : Int) < V ∧ s2.s = false ∧ Wf V s3 (k2 + 1) ∧ isN s3.n z = true ∧ isN s3.n y = true ∧ isN s3.n x = true ∧ Ext st.L st.n s2.L s2.n ∧ k2 + 2 ≤ kc + 2 * costN V v ∧ s2.n ≤ st.n + 2 ^ V.toNat * costN V v ∧ MvRel V B P st kc ((i : Int) + 2) u s4 (k2 + 2) (setK K2 ((i : Int) + 2) u) := by
  intro s3 z s4 u
  obtain ⟨p1, p2, p3, p4, p5, p6, p7, p8, p9⟩ := w.ok.good.node i hi
  rw [hL] at p1 p2 p3 p4 p5 p6 p7 p8 p9
  simp only [] at p1 p2 p3 p4 p5 p6 p7 p8 p9
  have hvar : varN V st.L st.n ((i : Int) + 2) = v := by rw [var_node hi, hL]
  have hvy : varN V s1.L s1.n hi' = varN V st.L st.n hi' := r1.ext.var (by omega)
  have hc := cost_step p2 p7 p8
  have e2 := r1.ext.trans r2.ext
  have hp := pow_V hV
  have hp1 : 1 ≤ 2 ^ V.toNat := Nat.one_le_two_pow
  have hm2 : 2 ^ V.toNat * costN V (varN V st.L st.n lo) + 2 ^ V.toNat * costN V (varN V st.L st.n hi') + 2 ^ V.toNat ≤ 2 ^ V.toNat * costN V v := by
    have := Nat.mul_le_mul_left (2 ^ V.toNat) hc
    rw [Nat.mul_add, Nat.mul_add, Nat.mul_one] at this
    exact this
  have n1 := r1.n
  have n2 := r2.n
  rw [hvy] at n2
  have q1 := r1.kc
  have q2 := r2.kc
  rw [hvy] at q2
  have hn2 : s2.n + 2 ^ V.toNat ≤ st.n + 2 ^ V.toNat * costN V v := by omega
  have hns2 : s2.s = false := by
    cases e : s2.s with
    | false => rfl
    | true => have := r2.bnd.2 e; omega
  -- the variable
  have hs3 : s3 = (makeM V B s2 (P v) 0 1).2 := by show (opG s2 (makeM V B s2 (P v) 0 1)).2 = _; rw [opG_no hns2]
  have hz3 : z = (makeM V B s2 (P v) 0 1).1 := by show (opG s2 (makeM V B s2 (P v) 0 1)).1 = _; rw [opG_no hns2]
  obtain ⟨m1, m2, m3⟩ := make_wf (B := B) r2.wf ((P v : Nat) : Int)
  have hb3 := makeM_bnd (V := V) (B := B) s2 (P v) 0 1 r2.bnd
  rw [← hs3] at m1 m2 m3 hb3
  rw [← hz3] at m3
  have hn3 : s3.n ≤ s2.n + 1 := by rw [hs3]; exact makeM_few _ _ _ _
  have hns3 : s3.s = false := by
    cases e : s3.s with
    | false => rfl
    | true => have := hb3.2 e; omega
  have hz : ∀ β : Nat → Bool, ev s3.L β z = β (P v) := fun β => by
    have := lit_ev (B := B) r2.wf.ok hk (v := P v) (by rw [← hs3]; exact hns3) β
    rw [← hs3, ← hz3, decide_eq_true hPv, Bool.true_and] at this
    exact this
  have iy : isN s3.n y = true := m2.is r2.isx
  have ix : isN s3.n x = true := m2.is (r2.ext.is r1.isx)
  -- all together
  have hs4 : s4 = (iteT V B s3 z y x).2 := by show (opG s3 (iteT V B s3 z y x)).2 = _; rw [opG_no hns3]
  have hu4 : u = (iteT V B s3 z y x).1 := by show (opG s3 (iteT V B s3 z y x)).1 = _; rw [opG_no hns3]
  have pi := iteT_ok (B := B) hV0 m1.ok m3 iy ix
  have wi := iteT_wf (B := B) hV0 hV m1 m3 iy ix
  have hb4 := iteM_bnd (V := V) (B := B) V.toNat s3 z y x hb3
  rw [← hs4] at wi
  have hb4 : s4.n ≤ B ∧ (s4.s = true → B ≤ s4.n) := by rw [hs4]; exact hb4
  have few : s4.n ≤ s3.n + (2 ^ V.toNat - 1) := by have := pi.few; rw [← hs4] at this; exact this
  have isu : isN s4.n u = true := by have := pi.isr; rw [← hs4, ← hu4] at this; exact this
  have ext34 : Ext s3.L s3.n s4.L s4.n := by have := pi.ext; rw [← hs4] at this; exact this
  have hns4 : s4.s = false := by
    cases e : s4.s with
    | false => rfl
    | true => have := hb4.2 e; omega
  have hu : ∀ β : Nat → Bool, ev s4.L β u = if β (P v) then ev s3.L β y else ev s3.L β x := fun β => by
    have := iteT_ev (B := B) hV0 m1.ok m3 iy ix (by rw [← hs4]; exact hns4) β
    rw [← hs4, ← hu4, hz β] at this
    exact this
  have ext24 : Ext s2.L s2.n s4.L s4.n := m2.trans ext34
  have ext04 : Ext st.L st.n s4.L s4.n := e2.trans ext24
  have hev : ∀ β : Nat → Bool, ev s4.L β u = ev st.L (fun v => β (P v)) ((i : Int) + 2) := fun β => by
    have a1 : ev s3.L β y = ev st.L (fun v => β (P v)) hi' := by
      rw [m2.ev r2.wf.ok.good β (isN_iff.1 r2.isx).2, r2.ev β, r1.ext.ev w.ok.good _ (by omega)]
    have a2 : ev s3.L β x = ev st.L (fun v => β (P v)) lo := by
      rw [m2.ev r2.wf.ok.good β (isN_iff.1 (r2.ext.is r1.isx)).2, r2.ext.ev r1.wf.ok.good β (isN_iff.1 r1.isx).2, r1.ev β]
    rw [hu β, a1, a2, ev_node w.ok.good _ i hi, hL]
    simp only [Int.toNat_natCast]
  refine ⟨p2, hns2, m1, m3, iy, ix, e2, by omega, by omega, wi, by rw [hvar]; omega, by rw [hvar]; omega, ext04, hb4, isu, hev, ?_⟩
  refine ⟨?_, ?_, fun g m hg => ?_⟩
  · show setK K2 ((i : Int) + 2) u 0 = some 0
    unfold setK; rw [if_neg (by omega)]; exact r2.snd.z
  · show setK K2 ((i : Int) + 2) u 1 = some 1
    unfold setK; rw [if_neg (by omega)]; exact r2.snd.o
  · unfold setK at hg
    by_cases e : g = (i : Int) + 2
    · rw [if_pos e] at hg
      simp only [Option.some.injEq] at hg
      subst hg e
      have hi0 : isN st.n ((i : Int) + 2) = true := isN_iff.2 ⟨by omega, by omega⟩
      exact ⟨ext04.is hi0, isu, fun β => by rw [ext04.ev w.ok.good _ (isN_iff.1 hi0).2]; exact hev β⟩
    · rw [if_neg e] at hg
      exact (r2.snd.ext r2.wf.ok.good ext24).at_ g m hg
theorem mv_joined (hV0 : 0 ≤ V) (hV : V ≤ 8) {k : Nat} (hk : V = (k : Int)) (w : Wf V st kc) {i : Nat} (hi : i < st.n) {v : Nat} {lo hi' x y : Int} (hL : st.L i = ((v : Int), lo, hi')) (hPv : P v < k) {s1 s2 : St} {k1 k2 : Nat} {K1 K2 : Int → Option Int}
    (r1 : MvRel V B P st kc lo x s1 k1 K1) (r2 : MvRel V B P s1 k1 hi' y s2 k2 K2) (hB : ((st.n + 2 ^ V.toNat * costN V v : Nat) : Int) < B) {r3 r4 : Int × St} (h3 : opG s2 (makeM V B s2 (P v) 0 1) = r3) (h4 : opG r3.2 (iteT V B r3.2 r3.1 y x) = r4) :
    s2.s = false ∧ Wf V r3.2 (k2 + 1) ∧ isN r3.2.n r3.1 = true ∧ isN r3.2.n y = true ∧ isN r3.2.n x = true ∧ k2 + 2 ≤ kc + 2 * costN V v ∧ MvRel V B P st kc ((i : Int) + 2) r4.1 r4.2 (k2 + 2) (setK K2 ((i : Int) + 2) r4.1) := by
  subst h3
  subst h4
  obtain ⟨_, a2, a3, a4, a5, a6, _, a8, _, a10⟩ := mv_join hV0 hV hk w hi hL hPv r1 r2 hB
  exact ⟨a2, a3, a4, a5, a6, a8, a10⟩
end
end Go.Proofs.Ytloidoekmicloaa
