/-
  A maker behind a play: what quant's calls leave.
-/
import Derived.Test.YtfakjhcpaiaekaaPlayState
import Derived.Test.YtfakjhcpaiaekaaQuantEach
set_option linter.unusedVariables false
set_option linter.unusedSimpArgs false
set_option linter.unnecessarySimpa false
namespace Go.Proofs.Ytfakjhcpaiaekaa
open Go.ChangeShapes Go.WideShapes Go.ChangeAt Go.RowKit Go.Deep NodePlain
/-- A number is a diagram that is true just where S says. -/
structure Num (st : St) (x : Int) (S : (Nat → Bool) → Bool) : Prop where
  is : isN st.n x = true
  ev : ∀ β, ev st.L β x = S β
theorem Num.ext {V : Int} {st st' : St} {x : Int} {S : (Nat → Bool) → Bool} (h : Num st x S) (e : Ext st.L st.n st'.L st'.n) (g : NodePlain.Good V st.L st.n) : Num st' x S :=
  ⟨e.is h.is, fun β => by rw [e.ev g β (isN_iff.1 h.is).2]; exact h.ev β⟩
theorem Num.eq {k : Nat} {st : St} {x y : Int} {S T : (Nat → Bool) → Bool} (h : Num st x S) (h2 : Num st y T) (g : NodePlain.Good (k : Int) st.L st.n) (he : ∀ β, S β = T β) : x = y :=
  once_bits g k rfl h.is h2.is (fun q _ => by rw [h.ev, h2.ev]; exact he _)
theorem putB_twice (β : Nat → Bool) (v : Int) (a b : Bool) : putB (putB β v a) v b = putB β v b := by
  funext i
  unfold putB
  split <;> rfl
theorem putB_comm (β : Nat → Bool) {v w : Int} (h : v ≠ w) (a b : Bool) : putB (putB β v a) w b = putB (putB β w b) v a := by
  funext i
  unfold putB
  by_cases h1 : (i : Int) = v
  · have h2 : ¬ (i : Int) = w := by omega
    rw [if_neg h2, if_pos h1, if_pos h1]
  · rw [if_neg h1, if_neg h1]
theorem putB_own (β : Nat → Bool) (v : Nat) : putB β (v : Int) (β v) = β := by
  funext i
  unfold putB
  by_cases h : (i : Int) = (v : Int)
  · rw [if_pos h]
    have : i = v := by omega
    rw [this]
  · rw [if_neg h]
theorem each_comm (or : Bool) (E : (Nat → Bool) → Bool) (v w : Int) (β : Nat → Bool) : eachEv or E [v, w] β = eachEv or E [w, v] β := by
  by_cases h : v = w
  · subst h; rfl
  · show eachOne or (eachOne or E v) w β = eachOne or (eachOne or E w) v β
    unfold eachOne
    rw [putB_comm β (fun e => h e.symm) false false, putB_comm β (fun e => h e.symm) false true, putB_comm β (fun e => h e.symm) true false, putB_comm β (fun e => h e.symm) true true]
    cases or
    · show ((E (putB (putB β v false) w false) && E (putB (putB β v true) w false)) && (E (putB (putB β v false) w true) && E (putB (putB β v true) w true))) = ((E (putB (putB β v false) w false) && E (putB (putB β v false) w true)) && (E (putB (putB β v true) w false) && E (putB (putB β v true) w true)))
      cases E (putB (putB β v false) w false) <;> cases E (putB (putB β v true) w false) <;> cases E (putB (putB β v false) w true) <;> cases E (putB (putB β v true) w true) <;> rfl
    · show ((E (putB (putB β v false) w false) || E (putB (putB β v true) w false)) || (E (putB (putB β v false) w true) || E (putB (putB β v true) w true))) = ((E (putB (putB β v false) w false) || E (putB (putB β v false) w true)) || (E (putB (putB β v true) w false) || E (putB (putB β v true) w true)))
      cases E (putB (putB β v false) w false) <;> cases E (putB (putB β v true) w false) <;> cases E (putB (putB β v false) w true) <;> cases E (putB (putB β v true) w true) <;> rfl
section
variable {w W W' : World} {k : Nat} {s : PlS} {u c : Nat} {d lb : Nat} {st : St} {kc : Nat} {calls : Int} {F : Nat → Prop}
theorem pow6 (hk6 : k ≤ 6) : 2 ^ ((k : Int)).toNat ≤ 64 := Nat.le_trans (Nat.pow_le_pow_right (by omega) (show ((k : Int)).toNat ≤ 6 by omega)) (by decide)
theorem MkS.step (h : MkS w W k s u c d lb st kc calls F) (hk6 : k ≤ 6) {q : Nat} {x : Int} {st' : St} {F' : Nat → Prop} {calls' : Int} {S : (Nat → Bool) → Bool} (m : Mk W d k 1048576 st kc q F x st' (kc + q) F' calls' W' S) (h0 : calls ≤ calls') (h1 : calls' ≤ calls + (q : Int)) :
    MkS w W' k s (u + q * 64) (c + q) d lb st' (kc + q) calls' F' := by
  have hn := h.n
  have hm := m.n
  have hp := Nat.mul_le_mul_left q (pow6 hk6)
  have hk := h.kc
  have hc0 := h.c0
  have hc1 := h.c1
  exact h.move m.bd m.mv m.fine m.ext (by omega) (by omega) (by omega) (by omega)
theorem MkS.more (h : MkS w W k s u c d lb st kc calls F) {u' c' : Nat} (hu : u ≤ u') (hc : c ≤ c') : MkS w W k s u' c' d lb st kc calls F :=
  ⟨h.bd, h.fine, h.ext, by have := h.n; omega, by have := h.kc; omega, h.c0, by have := h.c1; omega, h.nl, h.lt, h.fw, h.l, h.kp, h.lz⟩
/-- What each of these calls leaves. -/
def QPost (w : World) (k : Nat) (s : PlS) (u c q : Nat) (d lb : Nat) (st : St) (S : (Nat → Bool) → Bool) (e : Ending) (W' : World) : Prop :=
  ∃ z st' kc' calls' F', e = .returned (.int .i64 z) ∧ Hid (MkS w W' k s (u + q * 64) (c + q) d lb st' kc' calls' F' ∧ Ext st.L st.n st'.L st'.n ∧ Num st' z S)
theorem row2 {W : World} {a b : Int} : ReadsI (W.alloc (.cells #[.int .i64 a, .int .i64 b] 3)) (.slice (some ⟨W.heap.size, 0, none⟩) 2 2) [a, b] := by
  have ha := (MapKept.heap_alloc W (.cells #[.int .i64 a, .int .i64 b] 3)).1
  refine ⟨_, 2, rfl, by simp, fun _ => ⟨W.heap.size, 0, rfl, lt_of_heap ha, fun j x hx => ?_⟩⟩
  rw [cell_of_heap ha]
  match j, hx with
  | 0, hx => simp at hx; subst hx; rfl
  | 1, hx => simp at hx; subst hx; rfl
  | j + 2, hx => simp at hx
theorem Mk.lose {W W1 W2 : World} {db : Nat} {V B : Int} {st st1 : St} {K u K1 : Nat} {Fp F1 : Nat → Prop} {x : Int} {c1 : Int} {S : (Nat → Bool) → Bool} (hk : Keeps (fun _ => False) W W1) (a : Mk W1 db V B st K u Fp x st1 K1 F1 c1 W2 S) : Mk W db V B st K u Fp x st1 K1 F1 c1 W2 S := a.before hk
theorem MkS.some2 (h : MkS w W k s u c d lb st kc calls F) (hk6 : k ≤ 6) (hu : u ≤ 900000) (hc : c ≤ 20000) {f : Int} {E : (Nat → Bool) → Bool} (hf : Num st f E) (a b : Int) :
    Calls Try.prog 21 #[.pointer (some ⟨d, 0, none⟩), .int .i64 f, .slice (some ⟨W.heap.size, 0, none⟩) 2 2] (W.alloc (.cells #[.int .i64 a, .int .i64 b] 3)) (QPost w k s u c 8 d lb st (eachEv true E [a, b])) := by
  have hk1 : Keeps (fun _ => False) W (W.alloc (.cells #[.int .i64 a, .int .i64 b] 3)) := (Keeps.refl _ _).alloc _
  have hn := h.n
  have hk := h.kc
  have hc1 := h.c1
  have hp := pow6 hk6
  refine (some_spec (h.bd.quiet hk1) (by omega) (by omega) h.fine hf.is (l := [a, b]) (n := 2) rfl row2 (fun g off n cap e _ hg => by
    simp only [Value.slice.injEq, Option.some.injEq, Addr.mk.injEq] at e
    have := h.bd.lt g hg
    omega) (by omega) (by omega) h.c0 (by omega) (by omega)).mono ?_
  rintro e W2 ⟨x, st', F', rfl, hm⟩
  have hm2 := hm.out.before hk1
  exact ⟨x, st', _, _, F', rfl, h.step hk6 hm2 (by omega) (by omega), hm2.ext, hm2.isx, fun β => by rw [hm2.ev]; congr 1; funext γ; exact hf.ev γ⟩
theorem MkS.each2 (h : MkS w W k s u c d lb st kc calls F) (hk6 : k ≤ 6) (hu : u ≤ 900000) (hc : c ≤ 20000) {f : Int} {E : (Nat → Bool) → Bool} (hf : Num st f E) (a b : Int) :
    Calls Try.prog 23 #[.pointer (some ⟨d, 0, none⟩), .int .i64 f, .slice (some ⟨W.heap.size, 0, none⟩) 2 2] (W.alloc (.cells #[.int .i64 a, .int .i64 b] 3)) (QPost w k s u c 8 d lb st (eachEv false E [a, b])) := by
  have hk1 : Keeps (fun _ => False) W (W.alloc (.cells #[.int .i64 a, .int .i64 b] 3)) := (Keeps.refl _ _).alloc _
  have hn := h.n
  have hk := h.kc
  have hc1 := h.c1
  have hp := pow6 hk6
  refine (qeach_spec (h.bd.quiet hk1) (by omega) (by omega) h.fine hf.is (l := [a, b]) (n := 2) rfl row2 (fun g off n cap e _ hg => by
    simp only [Value.slice.injEq, Option.some.injEq, Addr.mk.injEq] at e
    have := h.bd.lt g hg
    omega) (by omega) (by omega) h.c0 (by omega) (by omega)).mono ?_
  rintro e W2 ⟨x, st', F', rfl, hm⟩
  have hm2 := hm.out.before hk1
  exact ⟨x, st', _, _, F', rfl, h.step hk6 hm2 (by omega) (by omega), hm2.ext, hm2.isx, fun β => by rw [hm2.ev]; congr 1; funext γ; exact hf.ev γ⟩
theorem MkS.restr (h : MkS w W k s u c d lb st kc calls F) (hk6 : k ≤ 6) (hu : u ≤ 900000) (hc : c ≤ 20000) {f : Int} {E : (Nat → Bool) → Bool} (hf : Num st f E) (v : Int) (so : Bool) :
    Calls Try.prog 24 #[.pointer (some ⟨d, 0, none⟩), .int .i64 f, .int .i64 v, .bool so] W (QPost w k s u c 1 d lb st (fun β => E (putB β v so))) := by
  have hn := h.n
  have hk := h.kc
  have hp := pow6 hk6
  refine (restrict_spec h.bd (by omega) (by omega) h.fine (by omega) hf.is v so (by omega)).mono ?_
  rintro e W2 ⟨x, st', F', rfl, hm⟩
  exact ⟨x, st', _, _, F', rfl, h.step hk6 hm.out (by omega) (by omega), hm.out.ext, hm.out.isx, fun β => by rw [hm.out.ev]; exact hf.ev _⟩
theorem MkS.put (h : MkS w W k s u c d lb st kc calls F) (hk6 : k ≤ 6) (hu : u ≤ 900000) (hc : c ≤ 20000) {f g : Int} {E G : (Nat → Bool) → Bool} (hf : Num st f E) (hg : Num st g G) (v : Int) :
    Calls Try.prog 30 #[.pointer (some ⟨d, 0, none⟩), .int .i64 f, .int .i64 v, .int .i64 g] W (QPost w k s u c 3 d lb st (fun β => if G β then E (putB β v true) else E (putB β v false))) := by
  have hn := h.n
  have hk := h.kc
  have hc1 := h.c1
  have hp := pow6 hk6
  refine (put_qspec h.bd (by omega) (by omega) h.fine hf.is hg.is v (by omega) h.c0 (by omega) (by omega)).mono ?_
  rintro e W2 ⟨x, st', F', rfl, hm⟩
  exact ⟨x, st', _, _, F', rfl, h.step hk6 hm.out (by omega) (by omega), hm.out.ext, hm.out.isx, fun β => by rw [hm.out.ev, hf.ev, hf.ev, hg.ev]⟩
theorem MkS.lit (h : MkS w W k s u c d lb st kc calls F) (hk6 : k ≤ 6) (hu : u ≤ 900000) (hc : c ≤ 20000) {v : Nat} (hv : v < k) :
    Calls Try.prog 40 #[.pointer (some ⟨d, 0, none⟩), .int .i64 v] W (QPost w k s u c 1 d lb st (fun β => β v)) := by
  have hn := h.n
  have hk := h.kc
  have hc0 := h.c0
  have hc1 := h.c1
  obtain ⟨r, hr⟩ : ∃ r, opG st (makeM (k : Int) 1048576 st (v : Nat) 0 1) = r := ⟨_, rfl⟩
  have q := blit_spec h.bd h.fine.wf (by omega) (v := (v : Int)) (by omega) (by omega) h.c0 (by omega)
  rw [hr] at q
  obtain ⟨f1, i1, n1, x1, v1⟩ := lit_fine h.fine (k := k) (v := v) rfl hv (by omega) hr
  refine q.mono ?_
  rintro e W2 ⟨rfl, hx⟩
  obtain ⟨F', hb, hm⟩ := hx.out
  exact ⟨r.1, r.2, kc + 1, calls + 1, F', rfl, h.move hb hm f1 x1 (by omega) (by omega) (by omega) (by omega), x1, i1, v1⟩
end
end Go.Proofs.Ytfakjhcpaiaekaa
