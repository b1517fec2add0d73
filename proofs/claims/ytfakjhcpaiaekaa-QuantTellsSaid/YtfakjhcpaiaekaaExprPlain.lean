/-
  Formulas as plain steps: which may be, what they say, how deep they are, which diagram they have. No program in sight.
-/
import Derived.Test.YtfakjhcpaiaekaaMF
set_option linter.unusedVariables false
set_option linter.unusedSimpArgs false
set_option linter.unnecessarySimpa false
namespace Go.Proofs.Ytfakjhcpaiaekaa
open Go.ChangeShapes Go.WideShapes Go.ChangeAt Go.RowKit Go.Deep NodePlain
structure Sp where
  op : Int
  a : Int
  b : Int
/-- May a step be, at a place? -/
def OkS (vars : Int) (i : Nat) (s : Sp) : Prop :=
  (s.op = 1 ∧ 0 ≤ s.a ∧ s.a < vars ∧ s.b = 0) ∨ (s.op = 2 ∧ 0 ≤ s.a ∧ s.a < i ∧ s.b = 0) ∨ ((s.op = 3 ∨ s.op = 4 ∨ s.op = 5) ∧ 0 ≤ s.a ∧ s.a < i ∧ 0 ≤ s.b ∧ s.b < i) ∨ ((s.op = 6 ∨ s.op = 7) ∧ s.a = 0 ∧ s.b = 0)
instance (vars : Int) (i : Nat) (s : Sp) : Decidable (OkS vars i s) := by unfold OkS; infer_instance
def okS (vars : Int) (i : Nat) (s : Sp) : Bool := decide (OkS vars i s)
def sp0 : Sp := ⟨0, 0, 0⟩
def okTo (vars : Int) (l : List Sp) : Nat → Bool
  | 0 => true
  | i + 1 => okTo vars l i && okS vars i (l.getD i sp0)
def lenOk (vars : Int) (n : Nat) : Prop := 0 ≤ vars ∧ vars ≤ 61 ∧ 1 ≤ n ∧ n ≤ 1000
instance (vars : Int) (n : Nat) : Decidable (lenOk vars n) := by unfold lenOk; infer_instance
def rightE (vars : Int) (l : List Sp) : Bool := decide (lenOk vars l.length) && okTo vars l l.length
theorem okTo_stop {vars : Int} {l : List Sp} {i : Nat} (h : okTo vars l i = false) : ∀ n, i ≤ n → okTo vars l n = false
  | 0, hn => by obtain rfl : i = 0 := by omega
                exact h
  | n + 1, hn => by
    by_cases e : i = n + 1
    · rw [← e]; exact h
    · unfold okTo
      rw [okTo_stop h n (by omega)]; rfl
theorem okTo_at {vars : Int} {l : List Sp} : ∀ {n : Nat}, okTo vars l n = true → ∀ i, i < n → OkS vars i (l.getD i sp0)
  | 0, _, i, hi => by omega
  | n + 1, h, i, hi => by
    unfold okTo at h
    rw [Bool.and_eq_true] at h
    by_cases e : i = n
    · subst e; exact of_decide_eq_true h.2
    · exact okTo_at h.1 i (by omega)
theorem right_len {vars : Int} {l : List Sp} (h : rightE vars l = true) : lenOk vars l.length := by
  unfold rightE at h
  rw [Bool.and_eq_true] at h
  exact of_decide_eq_true h.1
theorem right_at {vars : Int} {l : List Sp} (h : rightE vars l = true) {i : Nat} (hi : i < l.length) : OkS vars i (l.getD i sp0) := by
  unfold rightE at h
  rw [Bool.and_eq_true] at h
  exact okTo_at h.2 i hi
theorem getD_of {l : List Sp} {i : Nat} {s : Sp} (h : l[i]? = some s) : l.getD i sp0 = s := by rw [List.getD_eq_getElem?_getD, h]; rfl
/-- What a step says, of what those ahead of it say. -/
def val1 (β F : Nat → Bool) (s : Sp) : Bool :=
  if s.op = 1 then β s.a.toNat else if s.op = 2 then !F s.a.toNat else if s.op = 3 then F s.a.toNat && F s.b.toNat else if s.op = 4 then F s.a.toNat || F s.b.toNat else if s.op = 5 then F s.a.toNat != F s.b.toNat else decide (s.op = 6)
def valTo (β : Nat → Bool) (l : List Sp) : Nat → Nat → Bool
  | 0 => fun _ => false
  | i + 1 => fun j => if j = i then val1 β (valTo β l i) (l.getD i sp0) else valTo β l i j
def atE (β : Nat → Bool) (l : List Sp) : Bool := valTo β l l.length (l.length - 1)
/-- How deep a step is. -/
def dep1 (D : Nat → Nat) (s : Sp) : Nat := if s.op = 2 then D s.a.toNat + 1 else if 3 ≤ s.op ∧ s.op ≤ 5 then max (D s.a.toNat) (D s.b.toNat) + 1 else 1
def depTo (l : List Sp) : Nat → Nat → Nat
  | 0 => fun _ => 0
  | i + 1 => fun j => if j = i then dep1 (depTo l i) (l.getD i sp0) else depTo l i j
def depE (l : List Sp) : Nat := depTo l l.length (l.length - 1)
theorem dep_le (l : List Sp) : ∀ i j, depTo l i j ≤ i
  | 0, j => Nat.le_refl _
  | i + 1, j => by
    unfold depTo
    by_cases e : j = i
    · rw [if_pos e]
      unfold dep1
      have h1 := dep_le l i (l.getD i sp0).a.toNat
      have h2 := dep_le l i (l.getD i sp0).b.toNat
      split
      · omega
      · split <;> omega
    · rw [if_neg e]
      have := dep_le l i j
      omega
/-- One step's diagram. -/
def bld1 (V B : Int) (F : Nat → Int) (st : St) (s : Sp) : Int × St :=
  if s.op = 1 then opG st (makeM V B st s.a 0 1) else if s.op = 2 then opG st (iteT V B st (F s.a.toNat) 0 1) else if s.op = 3 then opG st (andT V B [F s.a.toNat, F s.b.toNat] (1, st)) else if s.op = 4 then opG st (orT V B [F s.a.toNat, F s.b.toNat] (0, st)) else
    if s.op = 5 then opG st (xorT V B st (F s.a.toNat) (F s.b.toNat)) else (if s.op = 6 then 1 else 0, st)
def bldTo (V B : Int) (l : List Sp) (st : St) : Nat → (Nat → Int) × St
  | 0 => (fun _ => 0, st)
  | i + 1 => (fun j => if j = i then (bld1 V B (bldTo V B l st i).1 (bldTo V B l st i).2 (l.getD i sp0)).1 else (bldTo V B l st i).1 j, (bld1 V B (bldTo V B l st i).1 (bldTo V B l st i).2 (l.getD i sp0)).2)
def bldN (V B : Int) (l : List Sp) (st : St) : Int × St := ((bldTo V B l st l.length).1 (l.length - 1), (bldTo V B l st l.length).2)
def callsS (s : Sp) : Nat := if s.op = 3 ∨ s.op = 4 then 2 else if s.op = 6 ∨ s.op = 7 then 0 else 1
theorem fine_ns {V B : Int} {kc : Nat} {st : St} (h : Fine V B kc st) (room : ((st.n : Nat) : Int) < B) : st.s = false := by
  cases e : st.s with
  | false => rfl
  | true => have := h.bnd.2 e; omega
section
variable {V B : Int} {kc : Nat} {st : St}
/-- What one step leaves. -/
structure Bl1 (V B : Int) (kc : Nat) (st : St) (r : Int × St) (S : (Nat → Bool) → Bool) : Prop where
  fine : Fine V B (kc + 2) r.2
  isr : isN r.2.n r.1 = true
  n : r.2.n ≤ st.n + 2 * 2 ^ V.toNat
  ext : Ext st.L st.n r.2.L r.2.n
  ev : ∀ β, ev r.2.L β r.1 = S β
theorem Fine.mono {kc' : Nat} (h : Fine V B kc st) (hk : kc ≤ kc') : Fine V B kc' st := ⟨h.wf.mono hk, h.bnd⟩
theorem bld1_ok (hV0 : 0 ≤ V) (hV : V ≤ 8) (h : Fine V B kc st) (room : ((st.n + 2 * 2 ^ V.toNat : Nat) : Int) < B) {F : Nat → Int} (hF : ∀ j, isN st.n (F j) = true) {i : Nat} {s : Sp} (hs : OkS V i s) :
    Bl1 V B kc st (bld1 V B F st s) (fun β => val1 β (fun j => ev st.L β (F j)) s) := by
  have hp : 1 ≤ 2 ^ V.toNat := Nat.one_le_two_pow
  have hns : st.s = false := fine_ns h (by omega)
  obtain ⟨k, hk⟩ := Int.eq_ofNat_of_zero_le hV0
  unfold bld1
  by_cases c1 : s.op = 1
  · rw [if_pos c1]
    have ha : 0 ≤ s.a ∧ s.a < V := by rcases hs with h | h | h | h <;> omega
    obtain ⟨v, hv⟩ := Int.eq_ofNat_of_zero_le ha.1
    rw [hv]
    obtain ⟨f1, i1, n1, x1, v1⟩ := lit_fine h hk (v := v) (by omega) (by omega) rfl
    refine ⟨f1.mono (by omega), i1, by omega, x1, fun β => ?_⟩
    rw [v1 β]
    show β v = val1 β _ s
    unfold val1
    rw [if_pos c1, hv]; rfl
  rw [if_neg c1]
  by_cases c2 : s.op = 2
  · rw [if_pos c2, opG_no hns]
    obtain ⟨f1, i1, n1, x1, _, v1⟩ := ite_fine hV0 hV h (hF s.a.toNat) (is0 _) (is1 _) (by omega) rfl
    refine ⟨f1.mono (by omega), i1, by omega, x1, fun β => ?_⟩
    rw [v1 β, ev0, ev1]
    show _ = val1 β _ s
    unfold val1
    rw [if_neg c1, if_pos c2]
    simp only []
    cases ev st.L β (F s.a.toNat) <;> rfl
  rw [if_neg c2]
  have two : ∀ (f1 g1 k1 f2 : Int) (G H : Int → Int) (r : Int × St), isN st.n f1 = true → isN st.n g1 = true → isN st.n k1 = true → isN st.n f2 = true → r = iteT V B (iteT V B st f1 g1 k1).2 f2 (G (iteT V B st f1 g1 k1).1) (H (iteT V B st f1 g1 k1).1) →
      (∀ y, G y = y ∨ isN st.n (G y) = true) → (∀ y, H y = y ∨ isN st.n (H y) = true) →
      Bl1 V B kc st r (fun β => if ev st.L β f2 then ev (iteT V B st f1 g1 k1).2.L β (G (iteT V B st f1 g1 k1).1) else ev (iteT V B st f1 g1 k1).2.L β (H (iteT V B st f1 g1 k1).1)) ∧ (∀ β, ev (iteT V B st f1 g1 k1).2.L β (iteT V B st f1 g1 k1).1 = if ev st.L β f1 then ev st.L β g1 else ev st.L β k1) ∧ (∀ β z, isN st.n z = true → ev (iteT V B st f1 g1 k1).2.L β z = ev st.L β z) := by
    intro f1 g1 k1 f2 G H r hf1 hg1 hk1 hf2 hr hG hH
    subst hr
    obtain ⟨a1, a2, a3, a4, a5, a6⟩ := ite_fine hV0 hV h hf1 hg1 hk1 (by omega) rfl
    generalize iteT V B st f1 g1 k1 = r1 at *
    have hext : ∀ β z, isN st.n z = true → ev r1.2.L β z = ev st.L β z := fun β z hz => a4.ev h.wf.ok.good β (isN_iff.1 hz).2
    have gG : isN r1.2.n (G r1.1) = true := by
      rcases hG r1.1 with e | e
      · rw [e]; exact a2
      · exact a4.is e
    have gH : isN r1.2.n (H r1.1) = true := by
      rcases hH r1.1 with e | e
      · rw [e]; exact a2
      · exact a4.is e
    obtain ⟨b1, b2, b3, b4, b5, b6⟩ := ite_fine hV0 hV a1 (a4.is hf2) gG gH (by omega) rfl
    refine ⟨⟨b1, b2, by omega, a4.trans b4, fun β => ?_⟩, a6, hext⟩
    rw [b6 β, hext β f2 hf2]
  by_cases c3 : s.op = 3
  · rw [if_pos c3, opG_no hns]
    obtain ⟨t1, t2, t3⟩ := two (F s.a.toNat) 1 0 (F s.b.toNat) (fun y => y) (fun _ => 0) _ (hF _) (is1 _) (is0 _) (hF _) rfl (fun y => .inl rfl) (fun y => .inr (is0 _))
    refine ⟨t1.fine, t1.isr, t1.n, t1.ext, fun β => ?_⟩
    refine (t1.ev β).trans ?_
    show (if _ then _ else _) = val1 β _ s
    rw [t2 β, ev0, ev1, ev0]
    unfold val1
    rw [if_neg c1, if_neg c2, if_pos c3]
    simp only []
    cases ev st.L β (F s.a.toNat) <;> cases ev st.L β (F s.b.toNat) <;> rfl
  rw [if_neg c3]
  by_cases c4 : s.op = 4
  · rw [if_pos c4, opG_no hns]
    obtain ⟨t1, t2, t3⟩ := two (F s.a.toNat) 1 0 (F s.b.toNat) (fun _ => 1) (fun y => y) _ (hF _) (is1 _) (is0 _) (hF _) rfl (fun y => .inr (is1 _)) (fun y => .inl rfl)
    refine ⟨t1.fine, t1.isr, t1.n, t1.ext, fun β => ?_⟩
    refine (t1.ev β).trans ?_
    show (if _ then _ else _) = val1 β _ s
    rw [t2 β, ev0, ev1, ev1]
    unfold val1
    rw [if_neg c1, if_neg c2, if_neg c3, if_pos c4]
    simp only []
    cases ev st.L β (F s.a.toNat) <;> cases ev st.L β (F s.b.toNat) <;> rfl
  rw [if_neg c4]
  by_cases c5 : s.op = 5
  · rw [if_pos c5, opG_no hns]
    obtain ⟨t1, t2, t3⟩ := two (F s.b.toNat) 0 1 (F s.a.toNat) (fun y => y) (fun _ => F s.b.toNat) _ (hF _) (is0 _) (is1 _) (hF _) rfl (fun y => .inl rfl) (fun y => .inr (hF _))
    refine ⟨t1.fine, t1.isr, t1.n, t1.ext, fun β => ?_⟩
    refine (t1.ev β).trans ?_
    show (if _ then _ else _) = val1 β _ s
    rw [t2 β, ev0, ev1, t3 β _ (hF _)]
    unfold val1
    rw [if_neg c1, if_neg c2, if_neg c3, if_neg c4, if_pos c5]
    simp only []
    cases ev st.L β (F s.a.toNat) <;> cases ev st.L β (F s.b.toNat) <;> rfl
  rw [if_neg c5]
  have hv : ∀ β, val1 β (fun j => ev st.L β (F j)) s = decide (s.op = 6) := fun β => by unfold val1; rw [if_neg c1, if_neg c2, if_neg c3, if_neg c4, if_neg c5]
  by_cases c6 : s.op = 6
  · rw [if_pos c6]
    refine ⟨h.mono (by omega), is1 _, by show st.n ≤ _; omega, Ext.refl _ _, fun β => ?_⟩
    rw [hv β, decide_eq_true c6]; exact ev1 _ _
  · rw [if_neg c6]
    refine ⟨h.mono (by omega), is0 _, by show st.n ≤ _; omega, Ext.refl _ _, fun β => ?_⟩
    rw [hv β, decide_eq_false c6]; exact ev0 _ _
/-- Behind so many steps. -/
structure BInv (V B : Int) (kc : Nat) (st : St) (l : List Sp) (i : Nat) (r : (Nat → Int) × St) : Prop where
  fine : Fine V B (kc + 2 * i) r.2
  is : ∀ j, isN r.2.n (r.1 j) = true
  n : r.2.n ≤ st.n + i * (2 * 2 ^ V.toNat)
  ext : Ext st.L st.n r.2.L r.2.n
  ev : ∀ β j, ev r.2.L β (r.1 j) = valTo β l i j
theorem binv0 (h : Fine V B kc st) (l : List Sp) : BInv V B kc st l 0 (bldTo V B l st 0) :=
  ⟨h.mono (by omega), fun _ => is0 _, by show st.n ≤ _; omega, Ext.refl _ _, fun β j => ev0 _ _⟩
theorem binv_step (hV0 : 0 ≤ V) (hV : V ≤ 8) {l : List Sp} {i : Nat} (h : BInv V B kc st l i (bldTo V B l st i)) (room : ((st.n + (i + 1) * (2 * 2 ^ V.toNat) : Nat) : Int) < B) (ho : OkS V i (l.getD i sp0)) : BInv V B kc st l (i + 1) (bldTo V B l st (i + 1)) := by
  unfold bldTo
  have hn := h.n
  have e1 : (i + 1) * (2 * 2 ^ V.toNat) = i * (2 * 2 ^ V.toNat) + 2 * 2 ^ V.toNat := by rw [Nat.add_mul, Nat.one_mul]
  rw [e1] at room
  have b := bld1_ok hV0 hV h.fine (by omega) h.is ho
  generalize bldTo V B l st i = r at *
  generalize bld1 V B r.1 r.2 (l.getD i sp0) = q at *
  have hq := b.n
  refine ⟨b.fine, fun j => ?_, by show q.2.n ≤ _; rw [e1]; omega, h.ext.trans b.ext, fun β j => ?_⟩
  · show isN q.2.n (if j = i then q.1 else r.1 j) = true
    by_cases e : j = i
    · rw [if_pos e]; exact b.isr
    · rw [if_neg e]; exact b.ext.is (h.is j)
  · show NodePlain.ev q.2.L β (if j = i then q.1 else r.1 j) = if j = i then _ else _
    by_cases e : j = i
    · rw [if_pos e, if_pos e, b.ev β]
      congr 1
      funext x
      exact h.ev β x
    · rw [if_neg e, if_neg e, b.ext.ev h.fine.wf.ok.good β (isN_iff.1 (h.is j)).2]
      exact h.ev β j
theorem binv_all (hV0 : 0 ≤ V) (hV : V ≤ 8) (h : Fine V B kc st) {l : List Sp} (hr : rightE V l = true) (room : ((st.n + l.length * (2 * 2 ^ V.toNat) : Nat) : Int) < B) : ∀ i, i ≤ l.length → BInv V B kc st l i (bldTo V B l st i)
  | 0, _ => binv0 h l
  | i + 1, hi => by
    have : (i + 1) * (2 * 2 ^ V.toNat) ≤ l.length * (2 * 2 ^ V.toNat) := Nat.mul_le_mul_right _ hi
    exact binv_step hV0 hV (binv_all hV0 hV h hr room i (by omega)) (by omega) (right_at hr (by omega))
end
end Go.Proofs.Ytfakjhcpaiaekaa
