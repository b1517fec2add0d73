/-
  At how many bits a diagram is true: each node's count of its own. No program in sight.
-/
import Derived.Test.YtfakjhcpaiaekaaSatPathPlain
import Derived.Test.YtfakjhcpaiaekaaMG
import Derived.Test.YtfakjhcpaiaekaaSatPart
import Derived.BigQuiet
set_option linter.unusedVariables false
set_option linter.unusedSimpArgs false
set_option linter.unnecessarySimpa false
namespace Go.Proofs.Ytfakjhcpaiaekaa
open NodePlain SatPlain
theorem cnt_none {S : (Nat → Bool) → Bool} (h : ∀ β, S β = false) : ∀ (n : Nat) (β : Nat → Bool), cntV S n β = 0
  | 0, β => by unfold cntV; rw [h]; rfl
  | n + 1, β => by unfold cntV; rw [cnt_none h n, cnt_none h n]
theorem cnt_every {S : (Nat → Bool) → Bool} (h : ∀ β, S β = true) : ∀ (n : Nat) (β : Nat → Bool), cntV S n β = 2 ^ n
  | 0, β => by unfold cntV; rw [h]; rfl
  | n + 1, β => by unfold cntV; rw [cnt_every h n, cnt_every h n, Nat.pow_succ]; omega
theorem cnt_le (S : (Nat → Bool) → Bool) : ∀ (n : Nat) (β : Nat → Bool), cntV S n β ≤ 2 ^ n
  | 0, β => by unfold cntV; cases S β <;> decide
  | n + 1, β => by
    unfold cntV
    have h1 := cnt_le S n (setB β n false)
    have h2 := cnt_le S n (setB β n true)
    rw [Nat.pow_succ]; omega
/-- At how many bits in all. -/
def cAll (L : Nat → Nd) (k : Nat) (x : Int) : Nat := cntV (fun β => ev L β x) k (fun _ => false)
theorem cAll_le (L : Nat → Nd) (k : Nat) (x : Int) : cAll L k x ≤ 2 ^ k := cnt_le _ _ _
/-- A node's count of its own. -/
def CntN (L : Nat → Nd) (n k : Nat) (x : Int) (m : Nat) : Prop := m * 2 ^ (varN (k : Int) L n x).toNat = cAll L k x
section
variable {k : Nat} {L : Nat → Nd} {n : Nat}
theorem cnt_zero : CntN L n k 0 0 := by
  unfold CntN cAll
  rw [Nat.zero_mul, cnt_none (fun β => by rw [ev_low _ _ 0 (by omega)]; rfl)]
theorem cnt_one : CntN L n k 1 1 := by
  unfold CntN cAll
  have hv : varN (k : Int) L n 1 = (k : Int) := by unfold varN; rw [if_neg (by omega)]
  rw [Nat.one_mul, cnt_every (fun β => by rw [ev_low _ _ 1 (by omega)]; rfl), hv, Int.toNat_natCast]
theorem CntN.le {x : Int} {m : Nat} (h : CntN L n k x m) : m ≤ 2 ^ k := by
  have h1 := cAll_le L k x
  rw [← h] at h1
  exact Nat.le_trans (Nat.le_mul_of_pos_right _ (Nat.two_pow_pos _)) h1
/-- One half more. -/
theorem CntN.add {x : Int} {m s u c w : Nat} (h : CntN L n k x m) (hw : varN (k : Int) L n x = (w : Int)) (hu : u < w) (hs : s * 2 ^ (u + 1) = c) : (s + m * 2 ^ (w - u - 1)) * 2 ^ (u + 1) = c + cAll L k x := by
  unfold CntN at h
  rw [hw, Int.toNat_natCast] at h
  rw [Nat.add_mul, hs, Nat.mul_assoc, ← Nat.pow_add, show w - u - 1 + (u + 1) = w by omega, h]
/-- Both halves. -/
theorem CntN.node (g : NodePlain.Good (k : Int) L n) {x lo hi : Int} {u s : Nat} (hx : isN n x = true) (hg : getN L n x = some ((u : Int), lo, hi)) (hs : s * 2 ^ (u + 1) = cAll L k lo + cAll L k hi) : CntN L n k x s := by
  obtain ⟨a1, a2, a3, a4, a5, a6, a7, a8, a9⟩ := node_parts g hx hg
  have huk : u < k := by
    have := var_le (V := (k : Int)) g lo
    omega
  have hh := cnt_half (S := fun β => ev L β x) (lo := fun β => ev L β lo) (hi := fun β => ev L β hi) (v := u) (fun β => by
    show ev L β x = _
    rw [a9 β, Int.toNat_natCast]) (fun β so => WayOk.free g a4 (by omega) β so) (fun β so => WayOk.free g a5 (by omega) β so) k huk (fun _ => false)
  unfold CntN
  rw [← a3, Int.toNat_natCast]
  have h2 : 2 * cAll L k x = s * 2 ^ (u + 1) := by rw [hs]; exact hh
  rw [Nat.pow_succ, ← Nat.mul_assoc] at h2
  omega
end
/-- What is known is right. -/
structure USound (L : Nat → Nd) (n k : Nat) (K : Int → Option Nat) : Prop where
  z : K 0 = some 0
  o : K 1 = some 1
  at_ : ∀ x m, K x = some m → CntN L n k x m
end Go.Proofs.Ytfakjhcpaiaekaa
/-
  A map from numbers to counts, as a function.
-/
set_option linter.unusedVariables false
set_option linter.unusedSimpArgs false
set_option linter.unnecessarySimpa false
namespace Go.Proofs.Ytfakjhcpaiaekaa
open Go.ChangeShapes Go.WideShapes Go.ChangeAt Go.RowKit Go.Deep
theorem mu_wf {a : Nat} (h : a ≤ 18446744073709551615) : (Lit.int .u64 (a : Int)).wf = true := by
  simp only [Lit.wf, IntKind.min, IntKind.max, IntKind.signed, IntKind.bits, Bool.and_eq_true, decide_eq_true_eq, if_true]
  constructor
  · simp
  · simp; omega
theorem mu_zero (w : World) : (zeroValue 34).run Try.prog w = .ok (.int .u64 0) w := by kernel_rfl
def setU (K : Int → Option Nat) (x : Int) (y : Nat) : Int → Option Nat := fun k => if k = x then some y else K k
/-- The map reads as the function says. -/
def UMap (W : World) (mb n : Nat) (K : Int → Option Nat) : Prop := ∃ D : DataW Unit, W.ownsMap Try.prog 3 (plainElem (H := Unit) Try.prog 34) mb n D ∧
  ∀ x : Int, Go.Maps.has D (.int .i64 x) = (K x).isSome ∧ D.atKey (.int .i64 x) (.lit (.int .u64 0)) = .lit (.int .u64 ((K x).getD 0 : Nat))
section
variable {W W' : World} {mb n : Nat} {K : Int → Option Nat}
theorem UMap.keeps {S : Nat → Prop} (h : UMap W mb n K) (hk : Keeps S W W') (hs : ¬ S mb) : UMap W' mb n K := by
  obtain ⟨D, h1, h2⟩ := h
  obtain ⟨es, clock, hb, r⟩ := h1
  exact ⟨D, ⟨es, clock, (hk.block mb (lt_of_heap hb) hs).trans hb, r⟩, h2⟩
theorem UMap.lt (h : UMap W mb n K) : mb < W.heap.size := by
  obtain ⟨D, h1, h2⟩ := h
  exact h1.lt
theorem UMap.zero (W : World) : UMap (W.alloc (.map #[] 0)) W.heap.size 0 (fun _ => none) := ⟨_, World.ownsMap_made _ _ _ _, fun a => ⟨rfl, by simp [DataW.atKey]⟩⟩
theorem UMap.ne (h : UMap W mb n K) {x : Nat} {c : Array Value} {t : TypeId} {f : Nat × Nat} (hx : W.heap[x]? = some (.cells c t f)) : mb ≠ x := fun e => by
  subst e
  obtain ⟨D, ⟨es, clock, hb, _⟩, _⟩ := h
  rw [hb] at hx
  cases hx
theorem UMap.put {D : DataW Unit} {x : Int} {y : Nat} (hD : ∀ x : Int, Go.Maps.has D (.int .i64 x) = (K x).isSome ∧ D.atKey (.int .i64 x) (.lit (.int .u64 0)) = .lit (.int .u64 ((K x).getD 0 : Nat))) (hM : Go.Maps.IsMap D)
    (ho : W'.ownsMap Try.prog 3 (plainElem (H := Unit) Try.prog 34) mb n (D.put (.int .i64 x) (.lit (.int .u64 (y : Int))))) : UMap W' mb n (setU K x y) := by
  refine ⟨_, ho, fun a => ?_⟩
  unfold setU
  by_cases e : a = x
  · subst e
    have hkl : WideAt.IsKeyLit (.int .i64 a) := trivial
    rw [Go.Maps.has_put_same hM hkl, Go.Maps.atKey_put_same hM hkl, if_pos rfl]
    exact ⟨rfl, rfl⟩
  · have hne : Lit.int .i64 a ≠ .int .i64 x := fun h => e (by cases h; rfl)
    rw [Go.Maps.has_put_other hne, Go.Maps.atKey_put_other hne, if_neg e]
    exact hD a
theorem UMap.congr {K' : Int → Option Nat} (h : UMap W mb n K) (e : ∀ x, K x = K' x) : UMap W mb n K' := by
  have : K = K' := funext e
  rw [← this]; exact h
/-- What a store does. -/
theorem UMap.update (h : UMap W mb n K) (hn : n < maxLen) {x : Int} {y : Nat} (hx0 : -9223372036854775808 ≤ x) (hx1 : x ≤ 9223372036854775807) (hy1 : y ≤ 18446744073709551615) :
    ∃ W', (Instr.mapUpdate 79 (.map (some mb)) (.int .i64 x) (.int .u64 (y : Int))).run Try.prog W = .ok () W' ∧ UMap W' mb (n + 1) (setU K x y) ∧ Keeps (fun k => k = mb) W W' := by
  obtain ⟨D, hown, hD⟩ := h
  obtain ⟨w', hrun, r1, r2⟩ := hown.update (t := 79) (e := 34) mi_keyed Try.underlying79 hn (mi_key hx0 hx1) (plainElem_int Try.underlying34 (mu_wf hy1))
  refine ⟨w', hrun, UMap.put hD hown.isMap r1, r2.os, r2.tape, r2.output, r2.size, fun k hk hs => ?_⟩
  exact r2.block k hk (fun e => hs (by cases e; rfl))
/-- What a look-up answers. -/
theorem UMap.look (h : UMap W mb n K) {x : Int} (hx0 : -9223372036854775808 ≤ x) (hx1 : x ≤ 9223372036854775807) :
    (Instr.lookup 79 (.map (some mb)) (.int .i64 x) true).run Try.prog W = .ok (.tuple #[.int .u64 ((K x).getD 0 : Nat), .bool (K x).isSome]) W := by
  obtain ⟨D, hown, hD⟩ := h
  obtain ⟨v, ps, hrun, hv⟩ := hown.look_ok (t := 79) (e := 34) mi_keyed Try.underlying79 (mu_zero W) (plainElem_int Try.underlying34 (mu_wf (a := 0) (by omega))) (mi_key hx0 hx1)
  obtain ⟨c, rfl, hc, hwc⟩ := plainElem_int_inv Try.underlying34 hv
  obtain ⟨q1, q2⟩ := hD x
  rw [hrun, q1]
  simp only [Prod.mk.injEq] at hc
  rw [q2] at hc
  have hcc := hc.1
  simp only [DataW.lit.injEq, Lit.int.injEq, true_and] at hcc
  rw [hcc]
end
end Go.Proofs.Ytfakjhcpaiaekaa
/-
  At how many bits a diagram is true: the walk of the closure.
-/
set_option linter.unusedVariables false
set_option linter.unusedSimpArgs false
set_option linter.unnecessarySimpa false
namespace Go.Proofs.Ytfakjhcpaiaekaa
open Go.ChangeShapes Go.WideShapes Go.ChangeAt Go.RowKit Go.Deep NodePlain SatPlain
def fnC (kx dx wx : Nat) : Value := .func (.func 47) #[] #[.pointer (some ⟨kx, 0, none⟩), .pointer (some ⟨dx, 0, none⟩), .pointer (some ⟨wx, 0, none⟩)]
theorem part_form {V : Int} {L : Nat → Nd} {n : Nat} (g : NodePlain.Good V L n) {f : Int} (hf : isN n f = true) : ∃ a b c : Int, partV L n V f = .tuple #[.agg #[.int .i64 a, .int .i64 b, .int .i64 c], .int .i64 (varN V L n f)] := by
  unfold partV
  rcases hg : getN L n f with _ | ⟨u, lo, hi⟩
  · have hl := none_low hf hg
    refine ⟨0, 0, 0, ?_⟩
    unfold varN
    rw [if_neg (by omega)]
    rfl
  · have := (node_parts g hf hg).2.2.1
    exact ⟨u, lo, hi, by rw [← this]; rfl⟩
/-- Sums over two, so far. -/
def pick2 (a b : Nat) : Nat → Nat
  | 0 => 0
  | 1 => a
  | _ => a + b
/-- What the closure captured, and the maker. -/
structure CtMem (W : World) (db mb : Nat) (V B : Int) (st : St) (calls : Int) (Fp : Nat → Prop) (N : Nat) (K : Int → Option Nat) (kx dx wx : Nat) : Prop where
  bd : Bd W db V B st calls Fp
  mp : UMap W mb N K
  c1 : W.cell? ⟨kx, 0, none⟩ = some (.map (some mb))
  c2 : W.cell? ⟨dx, 0, none⟩ = some (.pointer (some ⟨db, 0, none⟩))
  c3 : W.cell? ⟨wx, 0, none⟩ = some (fnC kx dx wx)
  f0 : ¬ Fp mb
  n1 : kx ≠ mb
  n2 : dx ≠ mb
  n3 : wx ≠ mb
section
variable {W W' : World} {db mb : Nat} {B : Int} {st : St} {calls : Int} {Fp : Nat → Prop} {N N' : Nat} {K K' : Int → Option Nat} {kx dx wx : Nat} {k : Nat}
theorem CtMem.move {V : Int} (h : CtMem W db mb V B st calls Fp N K kx dx wx) (hm : UMap W' mb N' K') (hk : Keeps (fun k => k = mb) W W') : CtMem W' db mb V B st calls Fp N' K' kx dx wx :=
  ⟨h.bd.keeps hk (fun x hx e => h.f0 (e ▸ hx)), hm, (hk.cell (p := ⟨kx, 0, none⟩) (lt_of_cell h.c1) h.n1).trans h.c1, (hk.cell (p := ⟨dx, 0, none⟩) (lt_of_cell h.c2) h.n2).trans h.c2, (hk.cell (p := ⟨wx, 0, none⟩) (lt_of_cell h.c3) h.n3).trans h.c3, h.f0, h.n1, h.n2, h.n3⟩
theorem CtMem.quiet {V : Int} (h : CtMem W db mb V B st calls Fp N K kx dx wx) (hk : Keeps (fun _ => False) W W') : CtMem W' db mb V B st calls Fp N K kx dx wx :=
  h.move (h.mp.keeps hk (fun x => x)) (hk.mono (fun _ _ x => x.elim))
def CtPost (W : World) (db mb : Nat) (k : Nat) (B : Int) (st : St) (calls : Int) (Fp : Nat → Prop) (N : Nat) (kx dx wx : Nat) (f : Int) (e : Ending) (W' : World) : Prop :=
  ∃ (m : Nat) (N' : Nat) (K' : Int → Option Nat), e = .returned (.int .u64 (m : Int)) ∧ Hid (CtMem W' db mb k B st calls Fp N' K' kx dx wx) ∧ Hid (Keeps (fun k => k = mb) W W') ∧ Hid (CntN st.L st.n k f m ∧ USound st.L st.n k K') ∧ Hid (N' ≤ N + costN k (varN k st.L st.n f))
/-- Where the loop stands. -/
def CtL (W w6 : World) (db mb k : Nat) (B : Int) (st : St) (calls : Int) (Fp : Nat → Prop) (N : Nat) (kx dx wx : Nat) (lo hi : Int) (u j s : Nat) (wx' : World) : Prop :=
  ∃ (N' : Nat) (K' : Int → Option Nat), CtMem wx' db mb k B st calls Fp N' K' kx dx wx ∧ Keeps (fun k => k = mb) w6 wx' ∧ USound st.L st.n k K' ∧ N' ≤ N + pick2 (costN k (varN k st.L st.n lo)) (costN k (varN k st.L st.n hi)) j ∧ s * 2 ^ (u + 1) = pick2 (cAll st.L k lo) (cAll st.L k hi) j
set_option maxRecDepth 100000
set_option maxHeartbeats 3200000
theorem count_walk (hk6 : k ≤ 6) (g : NodePlain.Good (k : Int) st.L st.n) (hn : st.n ≤ 10000000) (m : Nat) : ∀ (f : Int), f.toNat = m → ∀ (W : World) (N : Nat) (K : Int → Option Nat),
    CtMem W db mb k B st calls Fp N K kx dx wx → USound st.L st.n k K → isN st.n f = true → N + costN k (varN k st.L st.n f) ≤ 1000000 →
    Calls Try.prog 47 #[.int .i64 f, .pointer (some ⟨kx, 0, none⟩), .pointer (some ⟨dx, 0, none⟩), .pointer (some ⟨wx, 0, none⟩)] W (CtPost W db mb k B st calls Fp N kx dx wx f) := by
  induction m using Nat.strongRecOn with
  | _ m ih =>
  intro f hfm W N K hM hS hf hN
  have IH := Lib.hid ih
  clear ih
  have hf0 := (isN_iff.1 hf).1
  have hf1 := (isN_iff.1 hf).2
  have HM := Lib.hid hM
  have c1 := hM.c1
  have c2 := hM.c2
  have hlook := hM.mp.look (x := f) (by omega) (by omega)
  have HS := Lib.hid hS
  cases hK : K f with
  | some x =>
    rw [hK] at hlook
    simp only [Option.getD_some, Option.isSome_some] at hlook
    have HP : Hid (CtPost W db mb k B st calls Fp N kx dx wx f (.returned (.int .u64 (x : Int))) W) :=
      ⟨x, N, K, rfl, HM, Keeps.refl _ _, ⟨hS.at_ f x hK, hS⟩, Nat.le_add_right _ _⟩
    clear IH HM hM hS HS hK
    go_enter Try.func47, Try.ntmps47
    go_wp2_with fail
    go_ret
    exact HP.out
  | none =>
    rw [hK] at hlook
    simp only [Option.getD_none, Option.isSome_none] at hlook
    have h01 : f ≠ 0 ∧ f ≠ 1 := ⟨fun e => (by subst e; rw [hS.z] at hK; cases hK), fun e => (by subst e; rw [hS.o] at hK; cases hK)⟩
    obtain ⟨u, lo, hi', hget⟩ : ∃ u lo hi', getN st.L st.n f = some (u, lo, hi') := by
      rcases hg : getN st.L st.n f with _ | ⟨u, lo, hi'⟩
      · have := none_low hf hg; omega
      · exact ⟨u, lo, hi', rfl⟩
    obtain ⟨a1, a2, a3, a4, a5, a6, a7, a8, a9⟩ := node_parts g hf hget
    obtain ⟨i, rfl⟩ : ∃ i : Nat, f = (i : Int) + 2 := ⟨(f - 2).toNat, by omega⟩
    have hi : i < st.n := by omega
    obtain ⟨p1, p2, p3, p4, p5, p6, p7, p8, p9⟩ := g.node i hi
    have hL : st.L i = (u, lo, hi') := by
      unfold getN at hget
      rw [if_pos ⟨by omega, hf1⟩, show ((i : Int) + 2 - 2).toNat = i from by omega] at hget
      exact Option.some.inj hget
    rw [hL] at p1 p2 p3 p4 p5 p6 p7 p8 p9
    simp only [] at p1 p2 p3 p4 p5 p6 p7 p8 p9
    obtain ⟨u, rfl⟩ := Int.eq_ofNat_of_zero_le a2
    have hcst := cost_step p2 p7 p8
    have HPT : Hid (Calls Try.prog 48 #[.pointer (some ⟨db, 0, none⟩), .int .i64 ((i : Int) + 2)] W fun e W' => e = .returned (.tuple #[.agg #[.int .i64 (u : Int), .int .i64 lo, .int .i64 hi'], .int .i64 (u : Int)]) ∧ Keeps (fun _ => False) W W') := by
      have q := part_spec hM.bd (by omega) ((i : Int) + 2) (by omega) (by omega)
      unfold partV at q
      rw [hget] at q
      exact q
    rw [← a3] at hN
    have HB := Lib.hid (And.intro hN (And.intro hcst (And.intro a3 (And.intro hget (And.intro hf (And.intro hf1 hfm))))))
    have HY : Hid (∀ j y, (j = 0 ∧ y = lo ∨ j = 1 ∧ y = hi') → isN st.n y = true ∧ y.toNat < m ∧ (u : Int) < varN k st.L st.n y ∧ 0 ≤ y ∧ y ≤ 100000000) := fun j y h => by
      rcases h with ⟨_, rfl⟩ | ⟨_, rfl⟩
      · exact ⟨a4, by omega, a6, by omega, by omega⟩
      · exact ⟨a5, by omega, a7, by omega, by omega⟩
    clear hS hK h01 a1 a2 a3 a4 a5 a6 a7 a8 a9 p1 p2 p3 p4 p5 p6 p7 p8 p9 hL hget hcst hN hf hf1 hfm hM
    go_enter Try.func47, Try.ntmps47
    go_upto_region 6 with (go_at_call 48; refine HPT.out.mono ?_; rintro e wA ⟨rfl, hbA⟩)
    have hal := (MapKept.heap_alloc wA (.cells #[.int .i64 (u : Int), .int .i64 lo, .int .i64 hi'] 82)).1
    have hk5 : Keeps (fun _ => False) W (wA.alloc (.cells #[.int .i64 (u : Int), .int .i64 lo, .int .i64 hi'] 82)) := hbA.alloc _
    have d1 := cell_of_heap hal 1
    have d2 := cell_of_heap hal 2
    simp only [List.getElem?_toArray, List.getElem?_cons_zero, List.getElem?_cons_succ] at d1 d2
    have HK5 := Lib.hid hk5
    clear hbA HPT c2 hk5 hal c1 hlook
    generalize wA.alloc (.cells #[.int .i64 (u : Int), .int .i64 lo, .int .i64 hi'] 82) = w5 at *
    have har := (MapKept.heap_alloc w5 (.cells #[.int .i64 lo, .int .i64 hi'] 3)).1
    have hk6' : Keeps (fun _ => False) w5 (w5.alloc (.cells #[.int .i64 lo, .int .i64 hi'] 3)) := (Keeps.refl _ _).alloc _
    have HAR := Lib.hid har
    have HK6 := Lib.hid (HK5.out.trans hk6')
    clear har hk6'
    go_upto_region 7 with fail
    clear d1 d2
    obtain ⟨rb, hrb⟩ : ∃ rb, w5.heap.size = rb := ⟨_, rfl⟩
    rw [hrb] at HAR ⊢
    generalize w5.alloc (.cells #[.int .i64 lo, .int .i64 hi'] 3) = w6 at *
    have M6 := Lib.hid (HM.out.quiet HK6.out)
    have HRN : Hid (rb ≠ mb) := by
      show rb ≠ mb
      intro e
      have h1 := HK5.out.size
      have := HM.out.mp.lt
      omega
    have HL0 : Hid (CtL W w6 db mb k B st calls Fp N kx dx wx lo hi' u 0 0 w6) := ⟨N, K, M6.out, Keeps.refl _ _, HS.out, Nat.le_refl _, by rw [Nat.zero_mul]; rfl⟩
    clear hrb HK5 HS
    go_loopg [10, 35] 2 (fun g nv iv wq => ∃ j s, j ≤ 2 ∧ g = 2 - j ∧ iv = .int .i64 j ∧ nv = .int .u64 (s : Nat) ∧ Hid (CtL W w6 db mb k B st calls Fp N kx dx wx lo hi' u j s wq))
    case atStart => exact ⟨0, 0, by omega, rfl, rfl, rfl, HL0⟩
    case round =>
      clear HL0
      obtain ⟨j, s, hj, rfl, rfl, rfl, HL⟩ := hrel
      by_cases hlt : j < 2
      · have hjI : (j : Int) < 2 := by omega
        obtain ⟨y, hy⟩ : ∃ y, (j = 0 ∧ y = lo ∨ j = 1 ∧ y = hi') := by
          match j, hlt with
          | 0, _ => exact ⟨lo, .inl ⟨rfl, rfl⟩⟩
          | 1, _ => exact ⟨hi', .inr ⟨rfl, rfl⟩⟩
        obtain ⟨N1, K1, m1, k1, s1, n1, e1⟩ := HL.out
        obtain ⟨y1, y2, y3, y4, y5⟩ := HY.out j y hy
        obtain ⟨hN, hcst, a3, hget, hf, hf1, hfm⟩ := HB.out
        have hcy : wr.cell? ⟨rb, j, none⟩ = some (.int .i64 y) := by
          refine (k1.cell (p := ⟨rb, j, none⟩) (lt_of_heap HAR.out) HRN.out).trans ?_
          rw [cell_of_heap HAR.out]
          rcases hy with ⟨rfl, rfl⟩ | ⟨rfl, rfl⟩ <;> rfl
        have hcap : j < 2 := hlt
        obtain ⟨n0, n1', n2, hpf⟩ := part_form (V := (k : Int)) g y1
        have hv0 : 0 ≤ varN (k : Int) st.L st.n y := var_pos (by omega) g y
        have hvk := var_le (V := (k : Int)) g y
        obtain ⟨v, hv⟩ := Int.eq_ofNat_of_zero_le hv0
        have hq := part_spec m1.bd (by omega) y (by omega) (by omega)
        rw [hpf, hv] at hq
        have HPT := Lib.hid hq
        have hpk : pick2 (costN k (varN k st.L st.n lo)) (costN k (varN k st.L st.n hi')) (j + 1) = pick2 (costN k (varN k st.L st.n lo)) (costN k (varN k st.L st.n hi')) j + costN k (varN k st.L st.n y) := by
          rcases hy with ⟨rfl, rfl⟩ | ⟨rfl, rfl⟩
          · exact (Nat.zero_add _).symm
          · rfl
        have hpc : pick2 (cAll st.L k lo) (cAll st.L k hi') (j + 1) = pick2 (cAll st.L k lo) (cAll st.L k hi') j + cAll st.L k y := by
          rcases hy with ⟨rfl, rfl⟩ | ⟨rfl, rfl⟩
          · exact (Nat.zero_add _).symm
          · rfl
        have hple : pick2 (costN k (varN k st.L st.n lo)) (costN k (varN k st.L st.n hi')) (j + 1) ≤ costN k (varN k st.L st.n lo) + costN k (varN k st.L st.n hi') := by
          rcases hy with ⟨rfl, rfl⟩ | ⟨rfl, rfl⟩
          · exact Nat.le_add_right _ _
          · exact Nat.le_refl _
        have HIH : Hid (∀ W', Keeps (fun _ => False) wr W' → Calls Try.prog 47 #[.int .i64 y, .pointer (some ⟨kx, 0, none⟩), .pointer (some ⟨dx, 0, none⟩), .pointer (some ⟨wx, 0, none⟩)] W' (CtPost W' db mb k B st calls Fp N1 kx dx wx y)) := fun W' hk => IH.out y.toNat y2 y rfl W' N1 K1 (m1.quiet hk) s1 y1 (by omega)
        have HM1 := Lib.hid m1
        have HK1 := Lib.hid k1
        have HN1 : Hid (N1 + costN k (varN k st.L st.n y) ≤ N + pick2 (costN k (varN k st.L st.n lo)) (costN k (varN k st.L st.n hi')) (j + 1)) := by show _ ≤ _; rw [hpk]; omega
        have HE1 := Lib.hid e1
        have HPC := Lib.hid hpc
        have HV := Lib.hid hv
        have huv : u < v := by omega
        have hvk6 : v ≤ 6 := by omega
        have c2 := m1.c2
        clear hpk hpc hple hq hpf hv hv0 hvk hN hcst a3 hget hf hf1 hfm y1 y2 y3 m1 k1 s1 n1 e1 HL hlt hy
        go_upto_region 10 with (go_at_call 48; refine HPT.out.mono ?_; rintro e wB ⟨rfl, hbB⟩)
        have k7 : Keeps (fun _ => False) wr (wB.alloc (.cells #[.int .i64 n0, .int .i64 n1', .int .i64 n2] 82)) := hbB.alloc _
        have c3 := (HM1.out.quiet k7).c3
        unfold fnC at c3
        have HC7 := Lib.hid (HIH.out _ k7)
        have HK7 := Lib.hid k7
        generalize wB.alloc (.cells #[.int .i64 n0, .int .i64 n1', .int .i64 n2] 82) = w7 at *
        obtain ⟨z, hz⟩ : ∃ z : Nat, (v : Int) - u - 1 = (z : Int) := ⟨v - u - 1, by omega⟩
        have hw1 : IntKind.i64.wrap ((v : Int) - u) = (z : Int) + 1 := by rw [IntWalk.i64_in _ (by omega)]; omega
        have hw2 : IntKind.i64.wrap ((v : Int) - u - 1) = (z : Int) := by rw [IntWalk.i64_in _ (by omega)]; omega
        have hw3 : IntKind.i64.wrap ((z : Int) + 1 - 1) = (z : Int) := by rw [IntWalk.i64_in _ (by omega)]; omega
        have hz0 : (0 : Int) ≤ (z : Int) := by omega
        clear HPT hbB k7 HIH c2 hcy
        go_wp2_with fail
        refine HC7.out.mono ?_
        rintro e w8 ⟨n, N2, K2, rfl, M8, K8, C8, N8⟩
        clear HC7 c3
        have hz6 : z ≤ 6 := by omega
        have hzmin : min z 64 = z := Nat.min_eq_left (by omega)
        go_upto_region 11 with fail
        have hv2 := HV.out
        have hcn := C8.out.1
        have hn64 : n ≤ 64 := Nat.le_trans hcn.le (Nat.le_trans (Nat.pow_le_pow_right (by omega) hk6) (by decide))
        have hz64 : 2 ^ z ≤ 64 := Nat.le_trans (Nat.pow_le_pow_right (by omega) hz6) (by decide)
        have hnz : n * 2 ^ z ≤ 64 * 64 := Nat.mul_le_mul hn64 hz64
        have hs128 : s ≤ 128 := by
          have h1 := HE1.out
          have h2 : pick2 (cAll st.L k lo) (cAll st.L k hi') j ≤ 128 := by
            have q1 := cAll_le st.L k lo
            have q2 := cAll_le st.L k hi'
            have q3 : 2 ^ k ≤ 64 := Nat.le_trans (Nat.pow_le_pow_right (by omega) hk6) (by decide)
            match j, hcap with
            | 0, _ => exact Nat.zero_le _
            | 1, _ => show cAll st.L k lo ≤ 128; omega
          have h3 : s ≤ s * 2 ^ (u + 1) := Nat.le_mul_of_pos_right _ (Nat.two_pow_pos _)
          omega
        have HW : Hid (IntKind.u64.wrap ((s : Int) + IntKind.u64.wrap ((n : Int) * 2 ^ z)) = ((s + n * 2 ^ z : Nat) : Int)) := by
          show _ = _
          have e1 : (n : Int) * 2 ^ z = ((n * 2 ^ z : Nat) : Int) := by rw [Int.natCast_mul, Int.natCast_pow]; rfl
          obtain ⟨p, hp⟩ : ∃ p, n * 2 ^ z = p := ⟨_, rfl⟩
          rw [hp] at hnz e1 ⊢
          have hin : IntKind.u64.wrap (p : Int) = (p : Int) := IntWalk.u64_in _ (by omega)
          rw [e1, hin, IntWalk.u64_in _ (by omega)]
          omega
        have hzz : z = v - u - 1 := by omega
        have HN : Hid (CtL W w6 db mb k B st calls Fp N kx dx wx lo hi' u (j + 1) (s + n * 2 ^ z) w8) := ⟨N2, K2, M8.out, (HK1.out.trans (HK7.out.mono (fun _ _ x => x.elim))).trans K8.out, C8.out.2, Nat.le_trans N8.out HN1.out, by rw [HPC.out, hzz]; exact hcn.add hv2 huv HE1.out⟩
        clear hv2 hcn hn64 hz64 hnz hs128 hzz M8 K8 C8 N8 HN1 HE1 HPC HV HK7 HM1 HK1
        go_wp2_with fail
        go_roundg (2 - (j + 1))
        case measure => omega
        case rel => exact ⟨j + 1, s + n * 2 ^ z, by omega, rfl, by go_num, by rw [← HW.out], HN.out⟩
      · obtain rfl : j = 2 := by omega
        have hjI : ¬ ((2 : Nat) : Int) < 2 := by omega
        obtain ⟨N1, K1, m1, k1, s1, n1, e1⟩ := HL.out
        obtain ⟨hN, hcst, a3, hget, hf, hf1, hfm⟩ := HB.out
        have n1' : N1 ≤ N + (costN k (varN k st.L st.n lo) + costN k (varN k st.L st.n hi')) := n1
        have hcn : CntN st.L st.n k ((i : Int) + 2) s := CntN.node g hf hget e1
        have hs64 : s ≤ 64 := Nat.le_trans hcn.le (Nat.le_trans (Nat.pow_le_pow_right (by omega) hk6) (by decide))
        obtain ⟨w9, hrun, hmap, hk9⟩ := m1.mp.update (by unfold maxLen; omega) (x := (i : Int) + 2) (y := s) (by omega) (by omega) (by omega)
        have c1 := m1.c1
        have HP : Hid (CtPost W db mb k B st calls Fp N kx dx wx ((i : Int) + 2) (.returned (.int .u64 (s : Int))) w9) :=
          ⟨s, N1 + 1, _, rfl, m1.move hmap hk9, ((HK6.out.mono (fun _ _ x => x.elim)).trans k1).trans hk9, ⟨hcn, ⟨by
            unfold setU; rw [if_neg (by omega)]; exact s1.z, by
            unfold setU; rw [if_neg (by omega)]; exact s1.o, fun x m hx => by
            unfold setU at hx
            by_cases e : x = (i : Int) + 2
            · rw [if_pos e] at hx
              obtain rfl := Option.some.inj hx
              rw [e]; exact hcn
            · rw [if_neg e] at hx
              exact s1.at_ x m hx⟩⟩, by show N1 + 1 ≤ _; rw [← a3]; omega⟩
        clear hN hcst a3 hget hf hf1 hfm n1 n1' e1 s1 m1 k1 hcn hmap hk9 HL HM HB HY IH HK6 HAR M6 HRN
        go_wp2_with fail
        go_ret
        exact HP.out
end
end Go.Proofs.Ytfakjhcpaiaekaa
/-
  At how many bits a diagram is true: Count.
-/
set_option linter.unusedVariables false
set_option linter.unusedSimpArgs false
set_option linter.unnecessarySimpa false
namespace Go.Proofs.Ytfakjhcpaiaekaa
open Go.ChangeShapes Go.WideShapes Go.ChangeAt Go.RowKit Go.Deep NodePlain SatPlain
section
variable {W : World} {d : Nat} {B : Int} {st : St} {calls : Int} {Fp : Nat → Prop} {k : Nat}
set_option maxRecDepth 100000
set_option maxHeartbeats 3200000
theorem scount_spec (h : Bd W d (k : Int) B st calls Fp) (hk6 : k ≤ 6) (g : NodePlain.Good (k : Int) st.L st.n) (hn : st.n ≤ 10000000) {f : Int} (hf : isN st.n f = true) :
    Calls Try.prog 11 #[.pointer (some ⟨d, 0, none⟩), .int .i64 f] W fun e W' => e = .returned (.int .u64 (cAll st.L k f : Nat)) ∧ Hid (Keeps (fun _ => False) W W') := by
  have hf0 := (isN_iff.1 hf).1
  have hf1 := (isN_iff.1 hf).2
  have HI : Hid (∀ W', Keeps (fun _ => False) W W' → Calls Try.prog 28 #[.pointer (some ⟨d, 0, none⟩), .int .i64 f] W' fun e w' => e = .returned (.bool true) ∧ W' = w') := fun W' hk => (bis_spec (h.quiet hk) (by omega) f (by omega)).mono fun e w' hh => ⟨by rw [hh.1, hf], hh.2⟩
  obtain ⟨n0, n1, n2, hpf⟩ := part_form (V := (k : Int)) g hf
  obtain ⟨v, hv⟩ := Int.eq_ofNat_of_zero_le (var_pos (V := (k : Int)) (by omega) g f)
  have hvk := var_le (V := (k : Int)) g f
  have HPT : Hid (∀ W', Keeps (fun _ => False) W W' → Calls Try.prog 48 #[.pointer (some ⟨d, 0, none⟩), .int .i64 f] W' fun e W2 => e = .returned (.tuple #[.agg #[.int .i64 n0, .int .i64 n1, .int .i64 n2], .int .i64 (v : Int)]) ∧ Keeps (fun _ => False) W' W2) := fun W' hk => by
    have q := part_spec (h.quiet hk) (by omega) f (by omega) (by omega)
    rw [hpf, hv] at q
    exact q
  have HH := Lib.hid h
  have HV := Lib.hid hv
  have hv6 : v ≤ 6 := by omega
  have HG := Lib.hid g
  have HFI := Lib.hid hf
  have hbx : Keeps (fun _ => False) W (W.alloc (.cells #[.pointer (some ⟨d, 0, none⟩)] 25)) := (Keeps.refl _ _).alloc _
  have hab := (MapKept.heap_alloc W (.cells #[.pointer (some ⟨d, 0, none⟩)] 25)).1
  have e0 := cell_of_heap hab 0
  simp only [List.getElem?_toArray, List.getElem?_cons_zero] at e0
  have HK2 := Lib.hid hbx
  have HE0 := Lib.hid e0
  clear h hv hvk g hf hpf hbx hab e0
  go_enter Try.func11, Try.ntmps11
  go_upto_region 1 with fail
  have e0 := HE0.out
  generalize W.alloc (.cells #[.pointer (some ⟨d, 0, none⟩)] 25) = w3 at *
  go_wp2_with fail
  refine (HI.out _ HK2.out).mono ?_
  rintro e w' ⟨rfl, rfl⟩
  go_upto_region 3 with fail
  have hm0 := UMap.zero w3
  have hmr : (Instr.makeMap 79 none).run Try.prog w3 = .ok (.map (some w3.heap.size)) (w3.alloc (.map #[] 0)) := rfl
  obtain ⟨w4, hr0, hm1, hk4⟩ := hm0.update (by decide) (x := 0) (y := 0) (by omega) (by omega) (by omega)
  obtain ⟨w5, hr1, hm2, hk5⟩ := hm1.update (by decide) (x := 1) (y := 1) (by omega) (by omega) (by omega)
  rw [show ((0 : Nat) : Int) = 0 from rfl] at hr0
  rw [show ((1 : Nat) : Int) = 1 from rfl] at hr1
  have HM2 := Lib.hid hm2
  have HKM : Hid (Keeps (fun k => k = w3.heap.size) (w3.alloc (.map #[] 0)) w5) := hk4.trans hk5
  clear hm0 hm1 hm2 hk4 hk5
  go_upto_region 4 with fail
  have ha6 := (MapKept.heap_alloc w5 (.cells #[.map (some w3.heap.size)] 79)).1
  have hk6' : Keeps (fun _ => False) w5 (w5.alloc (.cells #[.map (some w3.heap.size)] 79)) := (Keeps.refl _ _).alloc _
  have HA6 := Lib.hid ha6
  have HK6 := Lib.hid hk6'
  have HS6 : Hid ((w5.alloc (.cells #[.map (some w3.heap.size)] 79)).heap.size = w5.heap.size + 1) := by show _ = _; simp
  generalize w5.alloc (.cells #[.map (some w3.heap.size)] 79) = w6 at *
  obtain ⟨kb, hkb⟩ : ∃ kb, w5.heap.size = kb := ⟨_, rfl⟩
  have HKB := Lib.hid hkb
  rw [hkb] at HA6 ⊢
  clear ha6 hk6' hkb hmr hr0 hr1
  have ha7 := (MapKept.heap_alloc w6 (.cells #[.nilFunc] 80)).1
  have c7 := cell_of_heap ha7 0
  have f7 := free_of_heap ha7 0
  have l7 := lt_of_heap ha7
  simp only [List.getElem?_toArray, List.getElem?_cons_zero] at c7
  have hst : (store ⟨w6.heap.size, 0, none⟩ (fnC kb W.heap.size w6.heap.size)).run Try.prog (w6.alloc (.cells #[.nilFunc] 80)) = .ok () ((w6.alloc (.cells #[.nilFunc] 80)).setCell ⟨w6.heap.size, 0, none⟩ (fnC kb W.heap.size w6.heap.size)) := by
    unfold fnC
    rw [run_store _ _ _ _ _ rfl]
    simp only [stored, c7, f7]
    rfl
  unfold fnC at hst
  have h8 := (MapKept.heap_alloc w6 (.cells #[fnC kb W.heap.size w6.heap.size] 80)).1
  have k8 : Keeps (fun _ => False) w6 (w6.alloc (.cells #[fnC kb W.heap.size w6.heap.size] 80)) := (Keeps.refl _ _).alloc _
  have e8 := cell_of_heap h8 0
  simp only [List.getElem?_toArray, List.getElem?_cons_zero] at e8
  have HE8 := Lib.hid e8
  have HK8 := Lib.hid k8
  clear ha7 h8 k8 e8
  go_upto_region 6 with fail
  clear hst f7 c7 l7
  unfold fnC at HE8 HK8
  generalize w6.alloc (.cells #[.func (.func 47) #[] #[.pointer (some ⟨kb, 0, none⟩), .pointer (some ⟨W.heap.size, 0, none⟩), .pointer (some ⟨w6.heap.size, 0, none⟩)]] 80) = w8 at *
  have hsW : W.heap.size < w3.heap.size := lt_of_cell HE0.out
  have kmap : Keeps (fun _ => False) w3 (w3.alloc (.map #[] 0)) := (Keeps.refl _ _).alloc _
  have hsm : (w3.alloc (.map #[] 0)).heap.size = w3.heap.size + 1 := by simp
  have hs5 := HKM.out.size
  have hs6 := HS6.out
  have hkb := HKB.out
  have k38 : Keeps (fun _ => False) w3 w8 := ((kmap.trans_new HKM.out (fun i hi e => by omega)).trans HK6.out).trans HK8.out
  have kW8 : Keeps (fun _ => False) W w8 := HK2.out.trans k38
  have hFl : ∀ x, Fp x → x < W.heap.size := HH.out.lt
  have M8 : CtMem w8 d w3.heap.size k B st calls Fp 2 (setU (setU (fun _ => none) 0 0) 1 1) kb W.heap.size w6.heap.size := by
    refine ⟨HH.out.quiet kW8, (HM2.out.keeps HK6.out (fun x => x)).keeps HK8.out (fun x => x), ?_, (k38.cell (p := ⟨W.heap.size, 0, none⟩) hsW (fun x => x)).trans HE0.out, HE8.out, fun h => by have := hFl _ h; omega, by omega, by omega, by omega⟩
    exact (HK8.out.cell (p := ⟨kb, 0, none⟩) (lt_of_heap HA6.out) (fun x => x)).trans (by rw [cell_of_heap HA6.out]; rfl)
  have hUS : USound st.L st.n k (setU (setU (fun _ => none) 0 0) 1 1) := ⟨by
    unfold setU; rw [if_neg (by decide), if_pos rfl], by
    unfold setU; rw [if_pos rfl], fun x m hx => by
    unfold setU at hx
    by_cases e1 : x = 1
    · rw [if_pos e1] at hx
      obtain rfl := Option.some.inj hx
      rw [e1]; exact cnt_one
    · rw [if_neg e1] at hx
      by_cases e0 : x = 0
      · rw [if_pos e0] at hx
        obtain rfl := Option.some.inj hx
        rw [e0]; exact cnt_zero
      · rw [if_neg e0] at hx
        cases hx⟩
  have hca : costN (k : Int) (varN k st.L st.n f) ≤ 255 := cost_all (by omega) (by rw [HV.out]; omega)
  have HC : Hid (∀ W', Keeps (fun _ => False) w8 W' → Calls Try.prog 47 #[.int .i64 f, .pointer (some ⟨kb, 0, none⟩), .pointer (some ⟨W.heap.size, 0, none⟩), .pointer (some ⟨w6.heap.size, 0, none⟩)] W' (CtPost W' d w3.heap.size k B st calls Fp 2 kb W.heap.size w6.heap.size f)) := fun W' hk => count_walk hk6 HG.out hn f.toNat f rfl W' 2 _ (M8.quiet hk) hUS HFI.out (by omega)
  have HW8 := Lib.hid kW8
  have HSM : Hid (W.heap.size < w3.heap.size) := hsW
  have e0 := M8.c2
  have HM8 := Lib.hid M8
  have HP8 := Lib.hid (HPT.out _ kW8)
  clear M8 hUS hca k38 kW8 kmap hsW hsm hs5 hs6 hkb hFl HM2 HKM HK6 HS6 HA6 HE8 HK8 HH HI HE0 HK2 HPT
  go_upto_region 7 with (go_at_call 48; refine HP8.out.mono ?_; rintro e wB ⟨rfl, hbB⟩)
  have k9 : Keeps (fun _ => False) w8 (wB.alloc (.cells #[.int .i64 n0, .int .i64 n1, .int .i64 n2] 82)) := hbB.alloc _
  have c3 := (HM8.out.quiet k9).c3
  unfold fnC at c3
  have HC9 := Lib.hid (HC.out _ k9)
  have HK9 := Lib.hid k9
  clear HC hbB k9 HP8 HM8 e0
  generalize wB.alloc (.cells #[.int .i64 n0, .int .i64 n1, .int .i64 n2] 82) = w9 at *
  have hv0 : (0 : Int) ≤ (v : Int) := by omega
  have hvm : min v 64 = v := Nat.min_eq_left (by omega)
  go_wp2_with fail
  refine HC9.out.mono ?_
  rintro e wC ⟨n, N2, K2, rfl, M9, K9, C9, N9⟩
  have hcn := C9.out.1
  unfold CntN at hcn
  rw [HV.out, Int.toNat_natCast] at hcn
  have hle : n * 2 ^ v ≤ 64 := by
    rw [hcn]
    exact Nat.le_trans (cAll_le _ _ _) (Nat.le_trans (Nat.pow_le_pow_right (by omega) hk6) (by decide))
  have HW : Hid (IntKind.u64.wrap ((n : Int) * 2 ^ v) = ((cAll st.L k f : Nat) : Int)) := by
    show _ = _
    have e1 : (n : Int) * 2 ^ v = ((n * 2 ^ v : Nat) : Int) := by rw [Int.natCast_mul, Int.natCast_pow]; rfl
    rw [e1, ← hcn, IntWalk.u64_in _ (by omega)]
  have HP : Hid (Keeps (fun _ => False) W wC) := (HW8.out.trans HK9.out).trans_new K9.out (fun i hi e => by have := HSM.out; omega)
  clear hcn hle M9 K9 C9 N9 HC9 HK9 HW8
  go_wp2_with fail
  go_ret
  exact ⟨by rw [HW.out]; rfl, HP⟩
end
end Go.Proofs.Ytfakjhcpaiaekaa
