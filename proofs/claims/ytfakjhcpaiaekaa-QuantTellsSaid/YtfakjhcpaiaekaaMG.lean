/-
  A map of numbers, as a function.
-/
import Derived.Test.YtfakjhcpaiaekaaNodeTab
import Derived.Maps.OwnSet
import Derived.Maps.OwnOps
import Derived.Maps.Views
import Derived.Test.YtfakjhcpaiaekaaMF
set_option linter.unusedVariables false
set_option linter.unusedSimpArgs false
set_option linter.unnecessarySimpa false
namespace Go.Proofs.Ytfakjhcpaiaekaa
open Go.ChangeShapes Go.WideShapes Go.ChangeAt Go.RowKit Go.Deep
theorem mi_keyed : Go.Maps.Keyed Try.prog 3 := Go.Maps.int_keyed Try.underlying3
theorem mi_wf {a : Int} (h0 : -9223372036854775808 ≤ a) (h1 : a ≤ 9223372036854775807) : (Lit.int .i64 a).wf = true := by
  simp only [Lit.wf, IntKind.min, IntKind.max, IntKind.signed, IntKind.bits, Bool.and_eq_true, decide_eq_true_eq, if_true]
  omega
theorem mi_key {a : Int} (h0 : -9223372036854775808 ≤ a) (h1 : a ≤ 9223372036854775807) : keyOf Try.prog 3 (.int .i64 a) = some (.int .i64 a) := Go.Maps.keyOf_int_mk Try.underlying3 (mi_wf h0 h1)
theorem mi_zero (w : World) : (zeroValue 3).run Try.prog w = .ok (.int .i64 0) w := by kernel_rfl
def setK (K : Int → Option Int) (x y : Int) : Int → Option Int := fun k => if k = x then some y else K k
/-- The map reads as the function says. -/
def IMap (W : World) (mb n : Nat) (K : Int → Option Int) : Prop := ∃ D : DataW Unit, W.ownsMap Try.prog 3 (plainElem (H := Unit) Try.prog 3) mb n D ∧
  ∀ x : Int, Go.Maps.has D (.int .i64 x) = (K x).isSome ∧ D.atKey (.int .i64 x) (.lit (.int .i64 0)) = .lit (.int .i64 ((K x).getD 0))
section
variable {W W' : World} {mb n : Nat} {K : Int → Option Int}
theorem IMap.keeps {S : Nat → Prop} (h : IMap W mb n K) (hk : Keeps S W W') (hs : ¬ S mb) : IMap W' mb n K := by
  obtain ⟨D, h1, h2⟩ := h
  obtain ⟨es, clock, hb, r⟩ := h1
  exact ⟨D, ⟨es, clock, (hk.block mb (lt_of_heap hb) hs).trans hb, r⟩, h2⟩
theorem IMap.lt (h : IMap W mb n K) : mb < W.heap.size := by
  obtain ⟨D, h1, h2⟩ := h
  exact h1.lt
theorem IMap.zero (W : World) : IMap (W.alloc (.map #[] 0)) W.heap.size 0 (fun _ => none) := ⟨_, World.ownsMap_made _ _ _ _, fun a => ⟨rfl, by simp [DataW.atKey]⟩⟩
theorem IMap.ne (h : IMap W mb n K) {x : Nat} {c : Array Value} {t : TypeId} {f : Nat × Nat} (hx : W.heap[x]? = some (.cells c t f)) : mb ≠ x := fun e => by
  subst e
  obtain ⟨D, ⟨es, clock, hb, _⟩, _⟩ := h
  rw [hb] at hx
  cases hx
theorem IMap.put {D : DataW Unit} {x y : Int} (hD : ∀ x : Int, Go.Maps.has D (.int .i64 x) = (K x).isSome ∧ D.atKey (.int .i64 x) (.lit (.int .i64 0)) = .lit (.int .i64 ((K x).getD 0))) (hM : Go.Maps.IsMap D)
    (ho : W'.ownsMap Try.prog 3 (plainElem (H := Unit) Try.prog 3) mb n (D.put (.int .i64 x) (.lit (.int .i64 y)))) : IMap W' mb n (setK K x y) := by
  refine ⟨_, ho, fun a => ?_⟩
  unfold setK
  by_cases e : a = x
  · subst e
    have hkl : WideAt.IsKeyLit (.int .i64 a) := trivial
    rw [Go.Maps.has_put_same hM hkl, Go.Maps.atKey_put_same hM hkl, if_pos rfl]
    exact ⟨rfl, rfl⟩
  · have hne : Lit.int .i64 a ≠ .int .i64 x := fun h => e (by cases h; rfl)
    rw [Go.Maps.has_put_other hne, Go.Maps.atKey_put_other hne, if_neg e]
    exact hD a
theorem IMap.congr {K' : Int → Option Int} (h : IMap W mb n K) (e : ∀ x, K x = K' x) : IMap W mb n K' := by
  have : K = K' := funext e
  rw [← this]; exact h
/-- What a store does. -/
theorem IMap.update (h : IMap W mb n K) (hn : n < maxLen) {x y : Int} (hx0 : -9223372036854775808 ≤ x) (hx1 : x ≤ 9223372036854775807) (hy0 : -9223372036854775808 ≤ y) (hy1 : y ≤ 9223372036854775807) :
    ∃ W', (Instr.mapUpdate 89 (.map (some mb)) (.int .i64 x) (.int .i64 y)).run Try.prog W = .ok () W' ∧ IMap W' mb (n + 1) (setK K x y) ∧ Keeps (fun k => k = mb) W W' := by
  obtain ⟨D, hown, hD⟩ := h
  obtain ⟨w', hrun, r1, r2⟩ := hown.update (t := 89) (e := 3) mi_keyed Try.underlying89 hn (mi_key hx0 hx1) (plainElem_int Try.underlying3 (mi_wf hy0 hy1))
  refine ⟨w', hrun, IMap.put hD hown.isMap r1, r2.os, r2.tape, r2.output, r2.size, fun k hk hs => ?_⟩
  exact r2.block k hk (fun e => hs (by cases e; rfl))
/-- What a look-up answers. -/
theorem IMap.look (h : IMap W mb n K) {x : Int} (hx0 : -9223372036854775808 ≤ x) (hx1 : x ≤ 9223372036854775807) :
    (Instr.lookup 89 (.map (some mb)) (.int .i64 x) true).run Try.prog W = .ok (.tuple #[.int .i64 ((K x).getD 0), .bool (K x).isSome]) W := by
  obtain ⟨D, hown, hD⟩ := h
  obtain ⟨v, ps, hrun, hv⟩ := hown.look_ok (t := 89) (e := 3) mi_keyed Try.underlying89 (mi_zero W) (plainElem_int Try.underlying3 (mi_wf (by omega) (by omega))) (mi_key hx0 hx1)
  obtain ⟨c, rfl, hc, hwc⟩ := plainElem_int_inv Try.underlying3 hv
  obtain ⟨q1, q2⟩ := hD x
  rw [hrun, q1]
  simp only [Prod.mk.injEq] at hc
  rw [q2] at hc
  have hcc := hc.1
  simp only [DataW.lit.injEq, Lit.int.injEq, true_and] at hcc
  rw [hcc]
end
end Go.Proofs.Ytfakjhcpaiaekaa
/-
  A diagram by variables in another order: what each step of it comes to. No program in sight.
-/
set_option linter.unusedVariables false
set_option linter.unusedSimpArgs false
set_option linter.unnecessarySimpa false
namespace Go.Proofs.Ytfakjhcpaiaekaa
open Go.ChangeShapes Go.WideShapes Go.ChangeAt Go.RowKit Go.Deep NodePlain
/-- How many nodes are looked at, at most, below a variable. -/
def costN (V v : Int) : Nat := 2 ^ (V - v).toNat - 1
theorem cost_step {V v a b : Int} (hv : v < V) (ha : v < a) (hb : v < b) : costN V a + costN V b + 1 ≤ costN V v := by
  unfold costN
  have h1 : 2 ^ (V - a).toNat ≤ 2 ^ ((V - v).toNat - 1) := Nat.pow_le_pow_right (by omega) (by omega)
  have h2 : 2 ^ (V - b).toNat ≤ 2 ^ ((V - v).toNat - 1) := Nat.pow_le_pow_right (by omega) (by omega)
  have h3 : 2 ^ (V - v).toNat = 2 ^ ((V - v).toNat - 1) + 2 ^ ((V - v).toNat - 1) := by
    rw [← Nat.mul_two, ← Nat.pow_succ]
    congr 1
    omega
  have h4 : 1 ≤ 2 ^ (V - a).toNat := Nat.one_le_two_pow
  have h5 : 1 ≤ 2 ^ (V - b).toNat := Nat.one_le_two_pow
  omega
theorem cost_all {V v : Int} (hV : V ≤ 8) (hv : 0 ≤ v) : costN V v ≤ 255 := by
  unfold costN
  have : 2 ^ (V - v).toNat ≤ 2 ^ 8 := Nat.pow_le_pow_right (by omega) (by omega)
  omega
/-- What was found is right. -/
structure KSound (P : Nat → Nat) (st : St) (K : Int → Option Int) : Prop where
  z : K 0 = some 0
  o : K 1 = some 1
  at_ : ∀ g m, K g = some m → isN st.n g = true ∧ isN st.n m = true ∧ ∀ β, ev st.L β m = ev st.L (fun v => β (P v)) g
theorem KSound.ext {P : Nat → Nat} {V : Int} {st st' : St} {K : Int → Option Int} (h : KSound P st K) (gd : NodePlain.Good V st.L st.n) (e : Ext st.L st.n st'.L st'.n) : KSound P st' K :=
  ⟨h.z, h.o, fun g m hg => by
    obtain ⟨a, b, c⟩ := h.at_ g m hg
    exact ⟨e.is a, e.is b, fun β => by rw [e.ev gd β (isN_iff.1 b).2, e.ev gd _ (isN_iff.1 a).2]; exact c β⟩⟩
/-- What a look leaves. -/
structure MvRel (V B : Int) (P : Nat → Nat) (st : St) (kc : Nat) (f x : Int) (st' : St) (kc' : Nat) (K' : Int → Option Int) : Prop where
  wf : Wf V st' kc'
  kc : kc' ≤ kc + 2 * costN V (varN V st.L st.n f)
  n : st'.n ≤ st.n + 2 ^ V.toNat * costN V (varN V st.L st.n f)
  ext : Ext st.L st.n st'.L st'.n
  bnd : st'.n ≤ B ∧ (st'.s = true → B ≤ st'.n)
  isx : isN st'.n x = true
  ev : ∀ β, ev st'.L β x = ev st.L (fun v => β (P v)) f
  snd : KSound P st' K'
section
variable {V B : Int} {P : Nat → Nat} {st : St} {kc : Nat} {K : Int → Option Int}
theorem mv_known {f x : Int} (w : Wf V st kc) (hb : st.n ≤ B ∧ (st.s = true → B ≤ st.n)) (h : KSound P st K) (hf : K f = some x) : MvRel V B P st kc f x st kc K := by
  obtain ⟨a, b, c⟩ := h.at_ f x hf
  exact ⟨w, Nat.le_add_right _ _, Nat.le_add_right _ _, Ext.refl _ _, hb, b, c, h⟩
/-- Both halves, the variable there, and all together. -/
theorem mv_join (hV0 : 0 ≤ V) (hV : V ≤ 8) {k : Nat} (hk : V = (k : Int)) (w : Wf V st kc) {i : Nat} (hi : i < st.n) {v : Nat} {lo hi' x y : Int} (hL : st.L i = ((v : Int), lo, hi')) (hPv : P v < k) {s1 s2 : St} {k1 k2 : Nat} {K1 K2 : Int → Option Int}
    (r1 : MvRel V B P st kc lo x s1 k1 K1) (r2 : MvRel V B P s1 k1 hi' y s2 k2 K2) (hB : ((st.n + 2 ^ V.toNat * costN V v : Nat) : Int) < B) :
    let s3 := (opG s2 (makeM V B s2 (P v) 0 1)).2
    let z := (opG s2 (makeM V B s2 (P v) 0 1)).1
    let s4 := (opG s3 (iteT V B s3 z y x)).2
    let u := (opG s3 (iteT V B s3 z y x)).1
    (v : Int) < V ∧ s2.s = false ∧ Wf V s3 (k2 + 1) ∧ isN s3.n z = true ∧ isN s3.n y = true ∧ isN s3.n x = true ∧ Ext st.L st.n s2.L s2.n ∧ k2 + 2 ≤ kc + 2 * costN V v ∧ s2.n ≤ st.n + 2 ^ V.toNat * costN V v ∧ MvRel V B P st kc ((i : Int) + 2) u s4 (k2 + 2) (setK K2 ((i : Int) + 2) u) := by
  intro s3 z s4 u
  obtain ⟨p1, p2, p3, p4, p5, p6, p7, p8, p9⟩ := w.ok.good.node i hi
  rw [hL] at p1 p2 p3 p4 p5 p6 p7 p8 p9
  simp only [] at p1 p2 p3 p4 p5 p6 p7 p8 p9
  have hvar : varN V st.L st.n ((i : Int) + 2) = v := by rw [var_node hi, hL]
  have hvy : varN V s1.L s1.n hi' = varN V st.L st.n hi' := r1.ext.var (by omega)
  have hc := cost_step p2 p7 p8
  have e2 := r1.ext.trans r2.ext
  have hp := pow_V hV
  have hp1 : 1 ≤ 2 ^ V.toNat := Nat.one_le_two_pow
  have hm2 : 2 ^ V.toNat * costN V (varN V st.L st.n lo) + 2 ^ V.toNat * costN V (varN V st.L st.n hi') + 2 ^ V.toNat ≤ 2 ^ V.toNat * costN V v := by
    have := Nat.mul_le_mul_left (2 ^ V.toNat) hc
    rw [Nat.mul_add, Nat.mul_add, Nat.mul_one] at this
    exact this
  have n1 := r1.n
  have n2 := r2.n
  rw [hvy] at n2
  have q1 := r1.kc
  have q2 := r2.kc
  rw [hvy] at q2
  have hn2 : s2.n + 2 ^ V.toNat ≤ st.n + 2 ^ V.toNat * costN V v := by omega
  have hns2 : s2.s = false := by
    cases e : s2.s with
    | false => rfl
    | true => have := r2.bnd.2 e; omega
  -- the variable
  have hs3 : s3 = (makeM V B s2 (P v) 0 1).2 := by show (opG s2 (makeM V B s2 (P v) 0 1)).2 = _; rw [opG_no hns2]
  have hz3 : z = (makeM V B s2 (P v) 0 1).1 := by show (opG s2 (makeM V B s2 (P v) 0 1)).1 = _; rw [opG_no hns2]
  obtain ⟨m1, m2, m3⟩ := make_wf (B := B) r2.wf ((P v : Nat) : Int)
  have hb3 := makeM_bnd (V := V) (B := B) s2 (P v) 0 1 r2.bnd
  rw [← hs3] at m1 m2 m3 hb3
  rw [← hz3] at m3
  have hn3 : s3.n ≤ s2.n + 1 := by rw [hs3]; exact makeM_few _ _ _ _
  have hns3 : s3.s = false := by
    cases e : s3.s with
    | false => rfl
    | true => have := hb3.2 e; omega
  have hz : ∀ β : Nat → Bool, ev s3.L β z = β (P v) := fun β => by
    have := lit_ev (B := B) r2.wf.ok hk (v := P v) (by rw [← hs3]; exact hns3) β
    rw [← hs3, ← hz3, decide_eq_true hPv, Bool.true_and] at this
    exact this
  have iy : isN s3.n y = true := m2.is r2.isx
  have ix : isN s3.n x = true := m2.is (r2.ext.is r1.isx)
  -- all together
  have hs4 : s4 = (iteT V B s3 z y x).2 := by show (opG s3 (iteT V B s3 z y x)).2 = _; rw [opG_no hns3]
  have hu4 : u = (iteT V B s3 z y x).1 := by show (opG s3 (iteT V B s3 z y x)).1 = _; rw [opG_no hns3]
  have pi := iteT_ok (B := B) hV0 m1.ok m3 iy ix
  have wi := iteT_wf (B := B) hV0 hV m1 m3 iy ix
  have hb4 := iteM_bnd (V := V) (B := B) V.toNat s3 z y x hb3
  rw [← hs4] at wi
  have hb4 : s4.n ≤ B ∧ (s4.s = true → B ≤ s4.n) := by rw [hs4]; exact hb4
  have few : s4.n ≤ s3.n + (2 ^ V.toNat - 1) := by have := pi.few; rw [← hs4] at this; exact this
  have isu : isN s4.n u = true := by have := pi.isr; rw [← hs4, ← hu4] at this; exact this
  have ext34 : Ext s3.L s3.n s4.L s4.n := by have := pi.ext; rw [← hs4] at this; exact this
  have hns4 : s4.s = false := by
    cases e : s4.s with
    | false => rfl
    | true => have := hb4.2 e; omega
  have hu : ∀ β : Nat → Bool, ev s4.L β u = if β (P v) then ev s3.L β y else ev s3.L β x := fun β => by
    have := iteT_ev (B := B) hV0 m1.ok m3 iy ix (by rw [← hs4]; exact hns4) β
    rw [← hs4, ← hu4, hz β] at this
    exact this
  have ext24 : Ext s2.L s2.n s4.L s4.n := m2.trans ext34
  have ext04 : Ext st.L st.n s4.L s4.n := e2.trans ext24
  have hev : ∀ β : Nat → Bool, ev s4.L β u = ev st.L (fun v => β (P v)) ((i : Int) + 2) := fun β => by
    have a1 : ev s3.L β y = ev st.L (fun v => β (P v)) hi' := by
      rw [m2.ev r2.wf.ok.good β (isN_iff.1 r2.isx).2, r2.ev β, r1.ext.ev w.ok.good _ (by omega)]
    have a2 : ev s3.L β x = ev st.L (fun v => β (P v)) lo := by
      rw [m2.ev r2.wf.ok.good β (isN_iff.1 (r2.ext.is r1.isx)).2, r2.ext.ev r1.wf.ok.good β (isN_iff.1 r1.isx).2, r1.ev β]
    rw [hu β, a1, a2, ev_node w.ok.good _ i hi, hL]
    simp only [Int.toNat_natCast]
  refine ⟨p2, hns2, m1, m3, iy, ix, e2, by omega, by omega, wi, by rw [hvar]; omega, by rw [hvar]; omega, ext04, hb4, isu, hev, ?_⟩
  refine ⟨?_, ?_, fun g m hg => ?_⟩
  · show setK K2 ((i : Int) + 2) u 0 = some 0
    unfold setK; rw [if_neg (by omega)]; exact r2.snd.z
  · show setK K2 ((i : Int) + 2) u 1 = some 1
    unfold setK; rw [if_neg (by omega)]; exact r2.snd.o
  · unfold setK at hg
    by_cases e : g = (i : Int) + 2
    · rw [if_pos e] at hg
      simp only [Option.some.injEq] at hg
      subst hg e
      have hi0 : isN st.n ((i : Int) + 2) = true := isN_iff.2 ⟨by omega, by omega⟩
      exact ⟨ext04.is hi0, isu, fun β => by rw [ext04.ev w.ok.good _ (isN_iff.1 hi0).2]; exact hev β⟩
    · rw [if_neg e] at hg
      exact (r2.snd.ext r2.wf.ok.good ext24).at_ g m hg
theorem mv_joined (hV0 : 0 ≤ V) (hV : V ≤ 8) {k : Nat} (hk : V = (k : Int)) (w : Wf V st kc) {i : Nat} (hi : i < st.n) {v : Nat} {lo hi' x y : Int} (hL : st.L i = ((v : Int), lo, hi')) (hPv : P v < k) {s1 s2 : St} {k1 k2 : Nat} {K1 K2 : Int → Option Int}
    (r1 : MvRel V B P st kc lo x s1 k1 K1) (r2 : MvRel V B P s1 k1 hi' y s2 k2 K2) (hB : ((st.n + 2 ^ V.toNat * costN V v : Nat) : Int) < B) {r3 r4 : Int × St} (h3 : opG s2 (makeM V B s2 (P v) 0 1) = r3) (h4 : opG r3.2 (iteT V B r3.2 r3.1 y x) = r4) :
    s2.s = false ∧ Wf V r3.2 (k2 + 1) ∧ isN r3.2.n r3.1 = true ∧ isN r3.2.n y = true ∧ isN r3.2.n x = true ∧ k2 + 2 ≤ kc + 2 * costN V v ∧ MvRel V B P st kc ((i : Int) + 2) r4.1 r4.2 (k2 + 2) (setK K2 ((i : Int) + 2) r4.1) := by
  subst h3
  subst h4
  obtain ⟨_, a2, a3, a4, a5, a6, _, a8, _, a10⟩ := mv_join hV0 hV hk w hi hL hPv r1 r2 hB
  exact ⟨a2, a3, a4, a5, a6, a8, a10⟩
end
end Go.Proofs.Ytfakjhcpaiaekaa
/-
  A diagram where a variable is so: what each step of it comes to. No program in sight.
-/
set_option linter.unusedVariables false
set_option linter.unusedSimpArgs false
set_option linter.unnecessarySimpa false
namespace Go.Proofs.Ytfakjhcpaiaekaa
open Go.ChangeShapes Go.WideShapes Go.ChangeAt Go.RowKit Go.Deep NodePlain
/-- A diagram hangs on its own variable and those behind it alone. -/
theorem ev_from {V : Int} {L : Nat → Nd} {n : Nat} (g : NodePlain.Good V L n) {b1 b2 : Nat → Bool} {w : Int} (hb : ∀ x : Nat, w ≤ x → b1 x = b2 x) : ∀ (f : Nat) (k : Int), k < f → k < n + 2 → w ≤ varN V L n k → ev L b1 k = ev L b2 k := by
  intro f
  induction f with
  | zero => intro k h0 _ _; rw [ev_low L b1 k (by omega), ev_low L b2 k (by omega)]
  | succ f ih =>
    intro k hk hn hw
    by_cases h2 : 2 ≤ k
    · obtain ⟨m, rfl⟩ : ∃ m : Nat, k = m + 2 := ⟨(k - 2).toNat, by omega⟩
      have hm : m < n := by omega
      obtain ⟨p1, p2, p3, p4, p5, p6, p7, p8, _⟩ := g.node m hm
      rw [var_node hm] at hw
      rw [ev_node g b1 m hm, ev_node g b2 m hm, hb _ (by omega), ih _ (by omega) (by omega) (by omega), ih _ (by omega) (by omega) (by omega)]
    · rw [ev_low L b1 k (by omega), ev_low L b2 k (by omega)]
def putB (β : Nat → Bool) (v : Int) (so : Bool) : Nat → Bool := fun i => if (i : Int) = v then so else β i
theorem putB_same {β : Nat → Bool} {v : Int} {so : Bool} {i : Nat} (h : (i : Int) = v) : putB β v so i = so := by unfold putB; rw [if_pos h]
theorem putB_other {β : Nat → Bool} {v : Int} {so : Bool} {i : Nat} (h : (i : Int) ≠ v) : putB β v so i = β i := by unfold putB; rw [if_neg h]
theorem ev_above {V : Int} {L : Nat → Nd} {n : Nat} (g : NodePlain.Good V L n) {v : Int} {so : Bool} {f : Int} (hf : isN n f = true) (h : v < varN V L n f) (β : Nat → Bool) : ev L (putB β v so) f = ev L β f := by
  rw [isN_iff] at hf
  exact ev_from g (w := v + 1) (fun x hx => putB_other (by omega)) (f.toNat + 1) f (by omega) (by omega) (by omega)
/-- What was found is right. -/
structure RSound (V v : Int) (so : Bool) (st : St) (K : Int → Option Int) : Prop where
  at_ : ∀ g m, K g = some m → isN st.n g = true ∧ isN st.n m = true ∧ varN V st.L st.n g ≤ varN V st.L st.n m ∧ ∀ β, ev st.L β m = ev st.L (putB β v so) g
theorem RSound.ext {V v : Int} {so : Bool} {st st' : St} {K : Int → Option Int} (h : RSound V v so st K) (gd : NodePlain.Good V st.L st.n) (e : Ext st.L st.n st'.L st'.n) : RSound V v so st' K :=
  ⟨fun g m hg => by
    obtain ⟨a, b, c, d⟩ := h.at_ g m hg
    refine ⟨e.is a, e.is b, ?_, fun β => ?_⟩
    · rw [e.var (isN_iff.1 a).2, e.var (isN_iff.1 b).2]; exact c
    · rw [e.ev gd β (isN_iff.1 b).2, e.ev gd _ (isN_iff.1 a).2]; exact d β⟩
theorem RSound.put {V v : Int} {so : Bool} {st : St} {K : Int → Option Int} (h : RSound V v so st K) {f x : Int} (hf : isN st.n f = true) (hx : isN st.n x = true) (hv : varN V st.L st.n f ≤ varN V st.L st.n x) (he : ∀ β, ev st.L β x = ev st.L (putB β v so) f) : RSound V v so st (setK K f x) :=
  ⟨fun g m hg => by
    unfold setK at hg
    by_cases e : g = f
    · rw [if_pos e] at hg
      simp only [Option.some.injEq] at hg
      subst hg e
      exact ⟨hf, hx, hv, he⟩
    · rw [if_neg e] at hg
      exact h.at_ g m hg⟩
/-- What a look leaves. -/
structure RsRel (V B v : Int) (so : Bool) (st : St) (f x : Int) (st' : St) (K' : Int → Option Int) : Prop where
  ok : Ok V st'
  hits : st'.hits = st.hits
  n : st'.n ≤ st.n + costN V (varN V st.L st.n f)
  ext : Ext st.L st.n st'.L st'.n
  bnd : st'.n ≤ B ∧ (st'.s = true → B ≤ st'.n)
  isx : isN st'.n x = true
  var : varN V st.L st.n f ≤ varN V st'.L st'.n x
  ev : ∀ β, ev st'.L β x = ev st.L (putB β v so) f
  snd : RSound V v so st' K'
section
variable {V B v : Int} {so : Bool} {st : St} {K : Int → Option Int}
theorem rs_known {f x : Int} (w : Ok V st) (hb : st.n ≤ B ∧ (st.s = true → B ≤ st.n)) (h : RSound V v so st K) (hf : K f = some x) : RsRel V B v so st f x st K := by
  obtain ⟨a, b, c, d⟩ := h.at_ f x hf
  exact ⟨w, rfl, Nat.le_add_right _ _, Ext.refl _ _, hb, b, c, d, h⟩
theorem rs_self {f : Int} (w : Ok V st) (hb : st.n ≤ B ∧ (st.s = true → B ≤ st.n)) (h : RSound V v so st K) (hf : isN st.n f = true) (hv : f < 2 ∨ v < varN V st.L st.n f) : RsRel V B v so st f f st K := by
  refine ⟨w, rfl, Nat.le_add_right _ _, Ext.refl _ _, hb, hf, Int.le_refl _, fun β => ?_, h⟩
  rcases hv with hv | hv
  · rw [ev_low _ _ _ hv, ev_low _ _ _ hv]
  · exact (ev_above w.good hf hv β).symm
theorem rs_eq (w : Ok V st) (hb : st.n ≤ B ∧ (st.s = true → B ≤ st.n)) (h : RSound V v so st K) {i : Nat} (hi : i < st.n) {lo hi' : Int} (hL : st.L i = (v, lo, hi')) : RsRel V B v so st ((i : Int) + 2) (if so then hi' else lo) st (setK K ((i : Int) + 2) (if so then hi' else lo)) := by
  obtain ⟨p1, p2, p3, p4, p5, p6, p7, p8, p9⟩ := w.good.node i hi
  have hn := ev_node w.good
  have hvar := var_node (V := V) (L := st.L) hi
  rw [hL] at p1 p2 p3 p4 p5 p6 p7 p8 p9 hvar
  simp only [] at p1 p2 p3 p4 p5 p6 p7 p8 p9 hvar
  have hf : isN st.n ((i : Int) + 2) = true := isN_iff.2 ⟨by omega, by omega⟩
  have ix : isN st.n (if so then hi' else lo) = true := by
    split
    · exact isN_iff.2 ⟨p5, by omega⟩
    · exact isN_iff.2 ⟨p3, by omega⟩
  have vx : v < varN V st.L st.n (if so then hi' else lo) := by split <;> omega
  have ex : ∀ β, ev st.L β (if so then hi' else lo) = ev st.L (putB β v so) ((i : Int) + 2) := fun β => by
    rw [hn _ i hi, hL]
    simp only []
    rw [putB_same (Int.toNat_of_nonneg p1)]
    have := ev_above w.good (so := so) ix vx β
    rw [← this]
    cases so <;> rfl
  exact ⟨w, rfl, Nat.le_add_right _ _, Ext.refl _ _, hb, ix, by rw [hvar]; omega, ex, h.put hf ix (by rw [hvar]; omega) ex⟩
/-- A node made. -/
theorem make_more (hok : Ok V st) (hb : st.n ≤ B ∧ (st.s = true → B ≤ st.n)) {u lo hi : Int} (hf : fitN V st.L st.n u lo hi = true) (room : ((st.n + 1 : Nat) : Int) < B) :
    Ok V (makeM V B st u lo hi).2 ∧ (makeM V B st u lo hi).2.hits = st.hits ∧ (makeM V B st u lo hi).2.n ≤ st.n + 1 ∧ Ext st.L st.n (makeM V B st u lo hi).2.L (makeM V B st u lo hi).2.n ∧ ((makeM V B st u lo hi).2.n ≤ B ∧ ((makeM V B st u lo hi).2.s = true → B ≤ (makeM V B st u lo hi).2.n)) ∧ isN (makeM V B st u lo hi).2.n (makeM V B st u lo hi).1 = true ∧
      u ≤ varN V (makeM V B st u lo hi).2.L (makeM V B st u lo hi).2.n (makeM V B st u lo hi).1 ∧ ∀ β, ev (makeM V B st u lo hi).2.L β (makeM V B st u lo hi).1 = if β u.toNat then ev st.L β hi else ev st.L β lo := by
  have hbm := makeM_bnd (V := V) (B := B) st u lo hi hb
  have hn := makeM_few (V := V) (B := B) st u lo hi
  have hs : (makeM V B st u lo hi).2.s = false := by
    cases e : (makeM V B st u lo hi).2.s with
    | false => rfl
    | true => have := hbm.2 e; omega
  obtain ⟨m1, m2, m3, m4, m5⟩ := make_ok (B := B) hok.good hf
  have hs2 : (resN V B st.L st.n u lo hi).out false = false := by
    have hs1 : (resN V B st.L st.n u lo hi).out st.s = false := hs
    revert hs1
    cases resN V B st.L st.n u lo hi <;> simp [Res.out]
  obtain ⟨m6, m7⟩ := m5 hs2
  exact ⟨⟨m1, fun i f g h x hx => (hok.cache i f g h x hx).ext m2 hok.good⟩, rfl, hn, m2, hbm, m4, m6, m7⟩
theorem rs_join (hV0 : 0 ≤ V) (w : Ok V st) {i : Nat} (hi : i < st.n) {u : Nat} {lo hi' x y : Int} (hL : st.L i = ((u : Int), lo, hi')) (huv : (u : Int) < v) {s1 s2 : St} {K1 K2 : Int → Option Int}
    (r1 : RsRel V B v so st lo x s1 K1) (r2 : RsRel V B v so s1 hi' y s2 K2) (room : ((st.n + costN V u : Nat) : Int) < B) {r : Int × St} (hr : makeM V B s2 u x y = r) :
    fitN V s2.L s2.n u x y = true ∧ s2.n + 1 ≤ st.n + costN V u ∧ RsRel V B v so st ((i : Int) + 2) r.1 r.2 (setK K2 ((i : Int) + 2) r.1) := by
  subst hr
  obtain ⟨p1, p2, p3, p4, p5, p6, p7, p8, p9⟩ := w.good.node i hi
  have hn := ev_node w.good
  have hvar := var_node (V := V) (L := st.L) hi
  rw [hL] at p1 p2 p3 p4 p5 p6 p7 p8 p9 hvar
  simp only [] at p1 p2 p3 p4 p5 p6 p7 p8 p9 hvar
  have hc := cost_step p2 p7 p8
  have hvy : varN V s1.L s1.n hi' = varN V st.L st.n hi' := r1.ext.var (by omega)
  have n1 := r1.n
  have n2 := r2.n
  rw [hvy] at n2
  have ix : isN s2.n x = true := r2.ext.is r1.isx
  have vx : (u : Int) < varN V s2.L s2.n x := by
    rw [r2.ext.var (isN_iff.1 r1.isx).2]
    have := r1.var
    omega
  have vy : (u : Int) < varN V s2.L s2.n y := by
    have := r2.var
    rw [hvy] at this
    omega
  have hfit : fitN V s2.L s2.n u x y = true := fitN_iff.2 ⟨p1, p2, isN_iff.1 ix, isN_iff.1 r2.isx, vx, vy⟩
  obtain ⟨m1, m2, m3, m4, m5, m6, m7, m8⟩ := make_more (B := B) r2.ok r2.bnd hfit (by omega)
  have e04 := (r1.ext.trans r2.ext).trans m4
  have hf : isN st.n ((i : Int) + 2) = true := isN_iff.2 ⟨by omega, by omega⟩
  have hev : ∀ β, ev (makeM V B s2 u x y).2.L β (makeM V B s2 u x y).1 = ev st.L (putB β v so) ((i : Int) + 2) := fun β => by
    have a1 : ev s2.L β y = ev st.L (putB β v so) hi' := by
      rw [r2.ev β, r1.ext.ev w.good _ (by omega)]
    have a2 : ev s2.L β x = ev st.L (putB β v so) lo := by
      rw [r2.ext.ev r1.ok.good β (isN_iff.1 r1.isx).2, r1.ev β]
    rw [m8 β, a1, a2, hn _ i hi, hL]
    simp only [Int.toNat_natCast]
    rw [putB_other (show (u : Int) ≠ v by omega)]
  refine ⟨hfit, by omega, m1, by rw [m2, r2.hits, r1.hits], by rw [hvar]; omega, e04, m5, m6, by rw [hvar]; exact m7, hev, ?_⟩
  refine ((r2.snd).ext r2.ok.good m4).put (e04.is hf) m6 (by rw [e04.var (isN_iff.1 hf).2, hvar]; exact m7) fun β => ?_
  rw [e04.ev w.good _ (isN_iff.1 hf).2]
  exact hev β
end
end Go.Proofs.Ytfakjhcpaiaekaa
/-
  All nodes that a diagram comes to, one by one: in which order they are met, how many these are. No program in sight.
-/
set_option linter.unusedVariables false
set_option linter.unusedSimpArgs false
set_option linter.unnecessarySimpa false
namespace Go.Proofs.Ytfakjhcpaiaekaa
open Go.ChangeShapes Go.WideShapes Go.ChangeAt Go.RowKit Go.Deep NodePlain
/-- Those met ahead, a diagram, those met behind it. -/
inductive Dfs (L : Nat → Nd) (n : Nat) : List Int → Int → List Int → Prop where
  | stop (K : List Int) (f : Int) : (f ∈ K ∨ getN L n f = none) → Dfs L n K f K
  | step (K K1 K2 : List Int) (f u lo hi : Int) : f ∉ K → getN L n f = some (u, lo, hi) → Dfs L n (K ++ [f]) lo K1 → Dfs L n K1 hi K2 → Dfs L n K f K2
theorem Dfs.one {L : Nat → Nd} {n : Nat} {K K1 : List Int} {f : Int} (h : Dfs L n K f K1) : ∀ K2, Dfs L n K f K2 → K1 = K2 := by
  induction h with
  | stop K f h =>
    intro K2 k
    cases k with
    | stop _ _ _ => rfl
    | step _ _ _ _ u lo hi h1 h2 _ _ =>
      rcases h with h | h
      · exact absurd h h1
      · rw [h] at h2; cases h2
  | step K K1 K2 f u lo hi h1 h2 _ _ ih1 ih2 =>
    intro K3 k
    cases k with
    | stop _ _ h =>
      rcases h with h | h
      · exact absurd h h1
      · rw [h] at h2; cases h2
    | step _ Q1 _ _ u' lo' hi' g1 g2 g3 g4 =>
      rw [h2] at g2
      simp only [Option.some.injEq, Prod.mk.injEq] at g2
      obtain ⟨_, rfl, rfl⟩ := g2
      have e := ih1 _ g3
      subst e
      exact ih2 _ g4
theorem Dfs.ext {V : Int} {L L' : Nat → Nd} {n n' : Nat} (e : Ext L n L' n') (g : NodePlain.Good V L n) {K K1 : List Int} {f : Int} (h : Dfs L n K f K1) : isN n f = true → Dfs L' n' K f K1 := by
  induction h with
  | stop K f h =>
    intro hf
    refine .stop K f (h.imp id fun h => ?_)
    rw [isN_iff] at hf
    unfold getN at h ⊢
    by_cases h2 : 2 ≤ f
    · rw [if_pos ⟨h2, hf.2⟩] at h; cases h
    · rw [if_neg (by omega)]
  | step K K1 K2 f u lo hi h1 h2 _ _ ih1 ih2 =>
    intro hf
    have hfi := isN_iff.1 hf
    have hget : getN L' n' f = some (u, lo, hi) := by
      unfold getN at h2 ⊢
      by_cases h3 : 2 ≤ f
      · rw [if_pos ⟨h3, hfi.2⟩] at h2
        rw [if_pos ⟨h3, by have := e.le; omega⟩, ← e.eq _ (by omega)]
        exact h2
      · rw [if_neg (by omega)] at h2; cases h2
    have hk : isN n lo = true ∧ isN n hi = true := by
      unfold getN at h2
      by_cases h3 : 2 ≤ f
      · rw [if_pos ⟨h3, hfi.2⟩] at h2
        have q := g.node (f - 2).toNat (by omega)
        simp only [Option.some.injEq] at h2
        rw [h2] at q
        exact ⟨isN_iff.2 ⟨q.2.2.1, by have := q.2.2.2.1; simp only [] at this; omega⟩, isN_iff.2 ⟨q.2.2.2.2.1, by have := q.2.2.2.2.2.1; simp only [] at this; omega⟩⟩
      · rw [if_neg (by omega)] at h2; cases h2
    exact .step K K1 K2 f u lo hi h1 hget (ih1 hk.1) (ih2 hk.2)
/-- A diagram has so many nodes. -/
def SizeN (L : Nat → Nd) (n : Nat) (f : Int) (s : Nat) : Prop := ∃ K, Dfs L n [] f K ∧ K.length = s
theorem SizeN.one {L : Nat → Nd} {n : Nat} {f : Int} {s t : Nat} (h : SizeN L n f s) (k : SizeN L n f t) : s = t := by
  obtain ⟨K, h1, rfl⟩ := h
  obtain ⟨Q, k1, rfl⟩ := k
  rw [h1.one _ k1]
theorem SizeN.ext {V : Int} {L L' : Nat → Nd} {n n' : Nat} {f : Int} {s : Nat} (h : SizeN L n f s) (e : Ext L n L' n') (g : NodePlain.Good V L n) (hf : isN n f = true) : SizeN L' n' f s := by
  obtain ⟨K, h1, h2⟩ := h
  exact ⟨K, h1.ext e g hf, h2⟩
end Go.Proofs.Ytfakjhcpaiaekaa
