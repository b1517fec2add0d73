/-
  The document's example of quant is as it says.
-/
import Derived.Test.YtfakjhcpaiaekaaQuantState
import Derived.Test.YtfakjhcpaiaekaaQuantSize
import Derived.Test.YtfakjhcpaiaekaaIteNew
set_option linter.unusedVariables false
set_option linter.unusedSimpArgs false
set_option linter.unnecessarySimpa false
namespace Go.Proofs.Ytfakjhcpaiaekaa
open Go.ChangeShapes Go.WideShapes Go.ChangeAt Go.RowKit Go.Deep NodePlain
/-- A variable's node. -/
theorem lit_node {V B : Int} {st : St} {k v : Nat} (hk : V = (k : Int)) (hv : v < k) (room : (st.n : Int) < B) : getN (makeM V B st v 0 1).2.L (makeM V B st v 0 1).2.n (makeM V B st v 0 1).1 = some ((v : Int), 0, 1) := by
  have low : ∀ x : Int, x < 2 → varN V st.L st.n x = V := fun x hx => by unfold varN; rw [if_neg (by omega)]
  have hf : fitN V st.L st.n v 0 1 = true := by
    rw [fitN_iff, low 0 (by omega), low 1 (by omega)]
    omega
  unfold makeM resN
  simp only [if_pos hf]
  rw [if_neg (show ¬ (0 : Int) = 1 by decide)]
  cases hi : idx st.L ((v : Int), 0, 1) st.n with
  | some i =>
    obtain ⟨h1, h2, _⟩ := idx_some hi
    show getN st.L st.n ((i : Int) + 2) = _
    unfold getN
    rw [if_pos ⟨by omega, by omega⟩, show ((i : Int) + 2 - 2).toNat = i by omega, h2]
  | none =>
    simp only []
    rw [if_neg (show ¬ B ≤ (st.n : Int) by omega)]
    show getN (addN st.L st.n ((v : Int), 0, 1)) (st.n + 1) ((st.n : Int) + 2) = _
    unfold getN
    rw [if_pos ⟨by omega, by omega⟩, show ((st.n : Int) + 2 - 2).toNat = st.n by omega]
    unfold addN
    rw [if_pos rfl]
theorem lit_size {L : Nat → Nd} {n : Nat} {x : Int} {v : Int} (h : getN L n x = some (v, 0, 1)) : SizeN L n x 1 := by
  have h0 : ∀ y : Int, y < 2 → getN L n y = none := fun y hy => by unfold getN; rw [if_neg (by omega)]
  exact ⟨[x], .step [] [x] [x] x v 0 1 (by simp) h (.stop _ 0 (.inr (h0 0 (by omega)))) (.stop _ 1 (.inr (h0 1 (by omega)))), rfl⟩
set_option maxRecDepth 100000 in
set_option maxHeartbeats 3200000 in
theorem lives17_any (w : World) : Calls Try.prog 29 #[] w fun e w' => e = .returned (.bool true) ∧ Below w.heap.size w w' := by
  have HN : Hid (Calls Try.prog 8 #[.int .i64 2, .int .i64 50] w fun e w' => ∃ db, e = .returned (.pointer (some ⟨db, 0, none⟩)) ∧ Hid (LM w db 2 50 st0 0 w')) := by
    refine (bnew_spec w 2 50 2 50 (by omega) (by omega) rfl ⟨by omega, rfl⟩).mono ?_
    rintro e w' ⟨db, Fp, rfl, h⟩
    exact ⟨db, rfl, Lib.hid ⟨Fp, h.out.1, h.out.2.1.below (Nat.le_refl _) (fun _ _ x => x), h.out.2.2⟩⟩
  have f0 : Fine 2 50 0 st0 := ⟨wf0 2, by show ((0 : Nat) : Int) ≤ 50; omega, fun e => by cases e⟩
  -- a variable
  have HLIT : Hid (∀ db w1 st kc c (v : Nat), Fine 2 50 kc st → v < 2 → st.n ≤ 45 → kc ≤ 100 → 0 ≤ c → c ≤ 100 → LM w db 2 50 st c w1 → Calls Try.prog 40 #[.pointer (some ⟨db, 0, none⟩), .int .i64 v] w1 fun e w2 => ∃ x st', e = .returned (.int .i64 x) ∧ Hid (LM w db 2 50 st' (c + 1) w2) ∧ Hid (Fine 2 50 (kc + 1) st' ∧ st'.n ≤ st.n + 1 ∧ Ext st.L st.n st'.L st'.n ∧ Num st' x (fun β => β v) ∧ getN st'.L st'.n x = some ((v : Int), 0, 1))) := by
    intro db w1 st kc c v hf hv hn hkc hc0 hc1 ⟨Fp, h, hb, hfp⟩
    have q := blit_spec h hf.wf (by omega) (v := (v : Int)) (by omega) (by omega) hc0 (by omega)
    obtain ⟨r, hr⟩ : ∃ r, opG st (makeM 2 50 st (v : Nat) 0 1) = r := ⟨_, rfl⟩
    have hns : st.s = false := by
      cases e : st.s with
      | false => rfl
      | true => have := hf.bnd.2 e; omega
    have hg := lit_node (V := 2) (B := 50) (st := st) (k := 2) rfl hv (by omega)
    rw [hr] at q
    obtain ⟨f1, i1, n1, x1, v1⟩ := lit_fine hf (k := 2) (v := v) rfl hv (by omega) hr
    rw [opG_no hns] at hr
    rw [hr] at hg
    refine q.mono ?_
    rintro e w2 ⟨rfl, hx⟩
    obtain ⟨Fp', h2, m⟩ := hx.out
    exact ⟨r.1, r.2, rfl, Lib.hid (LM.next hb hfp h2 m), f1, n1, x1, ⟨i1, v1⟩, hg⟩
  have hp4 : 2 ^ (2 : Int).toNat = 4 := by decide
  have HAND : Hid (∀ db w1 st kc c x y X Y, Fine 2 50 kc st → st.n ≤ 20 → kc ≤ 100 → 0 ≤ c → c ≤ 100 → Num st x X → Num st y Y → LM w db 2 50 st c w1 → Calls Try.prog 43 #[.pointer (some ⟨db, 0, none⟩), .slice (some ⟨w1.heap.size, 0, none⟩) 2 2] (w1.alloc (.cells #[.int .i64 x, .int .i64 y] 3)) fun e w2 => ∃ z st', e = .returned (.int .i64 z) ∧ Hid (LM w db 2 50 st' (c + 2) w2) ∧ Hid (Fine 2 50 (kc + 2) st' ∧ st'.n ≤ st.n + 8 ∧ Num st' z (fun β => X β && Y β))) := by
    intro db w1 st kc c x y X Y hf hn hkc hc0 hc1 hx hy ⟨Fp, h, hb, hfp⟩
    refine (and_two h (by omega) (by omega) hf (by omega) hx.is hy.is hc0 (by omega) (by rw [hp4]; omega)).mono ?_
    rintro e w2 ⟨z, st', F, rfl, hm⟩
    have mn := hm.out.n
    rw [hp4] at mn
    exact ⟨z, st', rfl, Lib.hid (LM.next hb hfp hm.out.bd hm.out.mv), hm.out.fine, by omega, hm.out.isx, fun β => by rw [hm.out.ev, hx.ev, hy.ev]⟩
  have HSOME : Hid (∀ db w1 st kc c x X, Fine 2 50 kc st → st.n ≤ 20 → kc ≤ 100 → 0 ≤ c → c ≤ 100 → Num st x X → LM w db 2 50 st c w1 → Calls Try.prog 21 #[.pointer (some ⟨db, 0, none⟩), .int .i64 x, .slice (some ⟨w1.heap.size, 0, none⟩) 1 1] (w1.alloc (.cells #[.int .i64 0] 3)) fun e w2 => ∃ z st', e = .returned (.int .i64 z) ∧ Hid (LM w db 2 50 st' (c + 2) w2) ∧ Hid (Fine 2 50 (kc + 4) st' ∧ st'.n ≤ st.n + 16 ∧ Num st' z (eachEv true X [0]))) := by
    intro db w1 st kc c x X hf hn hkc hc0 hc1 hx ⟨Fp, h, hb, hfp⟩
    have hk1 : Keeps (fun _ => False) w1 (w1.alloc (.cells #[.int .i64 0] 3)) := (Keeps.refl _ _).alloc _
    have ha := (MapKept.heap_alloc w1 (.cells #[.int .i64 0] 3)).1
    refine (some_spec (h.quiet hk1) (by omega) (by omega) hf hx.is (l := [0]) (n := 1) rfl ⟨_, 1, rfl, by simp, fun _ => ⟨w1.heap.size, 0, rfl, lt_of_heap ha, fun j y hy => ?_⟩⟩ (fun g off n cap e _ hg => by
      simp only [Value.slice.injEq, Option.some.injEq, Addr.mk.injEq] at e
      have := h.lt g hg
      omega) (by omega) (by omega) hc0 (by omega) (by rw [hp4]; omega)).mono ?_
    · rw [cell_of_heap ha]
      match j, hy with
      | 0, hy => simp at hy; subst hy; rfl
      | j + 1, hy => simp at hy
    · rintro e w2 ⟨z, st', F, rfl, hm⟩
      have hm2 := hm.out.before hk1
      have mn := hm2.n
      rw [hp4] at mn
      exact ⟨z, st', rfl, Lib.hid (LM.next hb hfp hm2.bd hm2.mv), hm2.fine, by omega, hm2.isx, fun β => by rw [hm2.ev]; congr 1; funext γ; exact hx.ev γ⟩
  have HSIZE : Hid (∀ db w1 st c x (v : Int), st.n ≤ 1000 → isN st.n x = true → getN st.L st.n x = some (v, 0, 1) → LM w db 2 50 st c w1 → Calls Try.prog 26 #[.pointer (some ⟨db, 0, none⟩), .int .i64 x] w1 fun e w2 => e = .returned (.int .i64 1) ∧ Below w.heap.size w w2) := by
    intro db w1 st c x v hn hx hg ⟨Fp, h, hb, hfp⟩
    refine (qsize_spec h (by omega) (by omega) (by omega) hx).mono ?_
    rintro e w2 ⟨s, rfl, hs⟩
    have := hs.out.2.one (lit_size hg)
    subst this
    exact ⟨rfl, hb.trans (hs.out.1.below hb.size (fun _ _ x => x))⟩
  have F0 := Lib.hid f0
  clear f0
  go_enter Try.func29, Try.ntmps29
  go_wp2_with fail
  refine HN.out.mono ?_
  rintro e w1 ⟨db, rfl, h1⟩
  have HC := Lib.hid (HLIT.out db w1 st0 0 0 0 F0.out (by omega) (by have : st0.n = 0 := rfl; omega) (by omega) (by omega) (by omega) h1.out)
  clear HN h1
  go_wp2_with fail
  refine HC.out.mono ?_
  rintro e w2 ⟨x, s1, rfl, h2, q2⟩
  have hn1 : s1.n ≤ 1 := by have := q2.out.2.1; have : st0.n = 0 := rfl; omega
  have HC2 := Lib.hid (HLIT.out db w2 s1 (0 + 1) (0 + 1) 1 q2.out.1 (by omega) (by omega) (by omega) (by omega) (by omega) h2.out)
  have HN1 := Lib.hid hn1
  clear HC h2 hn1
  go_wp2_with fail
  refine HC2.out.mono ?_
  rintro e w3 ⟨y, s2, rfl, h3, q3⟩
  have hn2 : s2.n ≤ 2 := by have := q3.out.2.1; have := HN1.out; omega
  have HC3 := Lib.hid (HAND.out db w3 s2 (0 + 1 + 1) (0 + 1 + 1) x y _ _ q3.out.1 (by omega) (by omega) (by omega) (by omega) (q2.out.2.2.2.1.ext q3.out.2.2.1 q2.out.1.wf.ok.good) q3.out.2.2.2.1 h3.out)
  have HN2 := Lib.hid hn2
  clear HC2 h3 hn2 HN1
  go_wp2_with fail
  refine HC3.out.mono ?_
  rintro e w4 ⟨a, s3, rfl, h4, q4⟩
  have hn3 : s3.n ≤ 10 := by have := q4.out.2.1; have := HN2.out; omega
  have HC4 := Lib.hid (HSOME.out db w4 s3 (0 + 1 + 1 + 2) (0 + 1 + 1 + 2) a _ q4.out.1 (by omega) (by omega) (by omega) (by omega) q4.out.2.2 h4.out)
  have HN3 := Lib.hid hn3
  clear HC3 h4 hn3 HN2 q2 q3
  go_wp2_with fail
  refine HC4.out.mono ?_
  rintro e w5 ⟨b, s4, rfl, h5, q5⟩
  have hn4 : s4.n ≤ 26 := by have := q5.out.2.1; have := HN3.out; omega
  have HC5 := Lib.hid (HLIT.out db w5 s4 (0 + 1 + 1 + 2 + 4) (0 + 1 + 1 + 2 + 2) 1 q5.out.1 (by omega) (by omega) (by omega) (by omega) (by omega) h5.out)
  have HN4 := Lib.hid hn4
  clear HC4 h5 hn4 HN3 q4
  go_wp2_with fail
  refine HC5.out.mono ?_
  rintro e w6 ⟨c, s5, rfl, h6, q6⟩
  have hn5 : s5.n ≤ 27 := by have := q6.out.2.1; have := HN4.out; omega
  have hbc : b = c := by
    refine (q5.out.2.2.ext q6.out.2.2.1 q5.out.1.wf.ok.good).eq (k := 2) q6.out.2.2.2.1 q6.out.1.wf.ok.good (fun β => ?_)
    show ((putB β 0 false 0 && putB β 0 false 1) || (putB β 0 true 0 && putB β 0 true 1)) = β 1
    have e0 : putB β 0 false 0 = false := rfl
    have e1 : putB β 0 true 0 = true := rfl
    have e2 : putB β 0 true 1 = β 1 := rfl
    rw [e0, e1, e2]; simp
  subst hbc
  have HC6 := Lib.hid (HLIT.out db w6 s5 (0 + 1 + 1 + 2 + 4 + 1) (0 + 1 + 1 + 2 + 2 + 1) 1 q6.out.1 (by omega) (by omega) (by omega) (by omega) (by omega) h6.out)
  have HN5 := Lib.hid hn5
  clear HC5 h6 hn5 HN4 q5
  go_wp2_with fail
  refine HC6.out.mono ?_
  rintro e w7 ⟨d, s6, rfl, h7, q7⟩
  have hn6 : s6.n ≤ 28 := by have := q7.out.2.1; have := HN5.out; omega
  have HC7 := Lib.hid (HSIZE.out db w7 s6 _ d _ (by omega) q7.out.2.2.2.1.is q7.out.2.2.2.2 h7.out)
  clear HC6 h7 hn6 HN5 q6 q7
  go_wp2_with fail
  refine HC7.out.mono ?_
  rintro e w8 ⟨rfl, hb⟩
  go_wp2_with fail
  go_ret
  exact ⟨rfl, hb⟩
end Go.Proofs.Ytfakjhcpaiaekaa
