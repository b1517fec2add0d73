/-
  The document's example; lists in order with the same members are one.
-/
import Derived.Test.YtaabmkebbnkonaaDoorLiveNew
import Derived.ChangeKeysEq
set_option linter.unusedVariables false
set_option linter.unusedSimpArgs false
set_option linter.unnecessarySimpa false
namespace Go.Proofs.YtaabmkebbnkonaaDoor
open Go.ChangeShapes Go.WideShapes Go.ChangeAt Go.RowKit Go.Deep SetPlain
theorem lIntInfo2 : (Tryd.prog.info? 3).map (fun i => (i.zero, i.size, i.bytes)) = some (some (.int .i64 0), 1, 8) := by kernel_rfl
theorem lIntCells : Tryd.prog.cellsOf 3 = 1 := by kernel_rfl
set_option maxRecDepth 10000 in
set_option maxHeartbeats 800000 in
theorem pair_eqIn (a0 a1 k0 k1 : Int) (w : World) :
    (Op.equalIn 10000 22 (.agg #[.int .i64 a0, .int .i64 a1]) (.agg #[.int .i64 k0, .int .i64 k1])).run Tryd.prog w = .ok (decide ((a0, a1) = (k0, k1))) w := by
  obtain ⟨i0, hi, _, _, _⟩ := info_parts lIntInfo2
  rw [run_equalIn_array w 9999 _ _ Tryd.underlying22 hi, lIntCells]
  by_cases h0 : a0 = k0
  · subst h0
    by_cases h1 : a1 = k1
    · subst h1
      simp [Op.eqItems, List.range, List.range.loop, go_sem]
    · have h3' : (a1 == k1) = false := by simpa using h1
      simp [Op.eqItems, List.range, List.range.loop, go_sem, h3', h1]
  · have h3' : (a0 == k0) = false := by simpa using h0
    simp [Op.eqItems, List.range, List.range.loop, go_sem, h3', h0]
theorem pair_eql (a0 a1 k0 k1 : Int) (w : World) :
    (binOp .eql 22 (.agg #[.int .i64 a0, .int .i64 a1]) (.agg #[.int .i64 k0, .int .i64 k1])).run Tryd.prog w = .ok (.bool (decide ((a0, a1) = (k0, k1)))) w := by
  rw [run_eql_struct, pair_eqIn]; rfl
theorem order_eq {α : Type} {R : α → α → Prop} (irr : ∀ a, ¬ R a a) (asym : ∀ a b, R a b → ¬ R b a) : ∀ l m : List α, l.Pairwise R → m.Pairwise R → (∀ x, x ∈ l ↔ x ∈ m) → l = m
  | [], [], _, _, _ => rfl
  | [], b :: m, _, _, h => by have := (h b).2 (List.mem_cons_self); cases this
  | a :: l, [], _, _, h => by have := (h a).1 (List.mem_cons_self); cases this
  | a :: l, b :: m, h1, h2, h => by
    obtain ⟨p1, p2⟩ := List.pairwise_cons.1 h1
    obtain ⟨q1, q2⟩ := List.pairwise_cons.1 h2
    have hab : a = b := by
      rcases List.mem_cons.1 ((h a).1 List.mem_cons_self) with e | e
      · exact e
      rcases List.mem_cons.1 ((h b).2 List.mem_cons_self) with e2 | e2
      · exact e2.symm
      · exact absurd (q1 a e) (asym _ _ (p1 b e2))
    subst hab
    rw [order_eq irr asym l m p2 q2 (fun x => ?_)]
    constructor
    · intro hx
      rcases List.mem_cons.1 ((h x).1 (List.mem_cons_of_mem _ hx)) with e | e
      · subst e; exact absurd (p1 x hx) (irr x)
      · exact e
    · intro hx
      rcases List.mem_cons.1 ((h x).2 (List.mem_cons_of_mem _ hx)) with e | e
      · subst e; exact absurd (q1 x hx) (irr x)
      · exact e
theorem Diff.eq {P K : Nat} {rs rs' : List Rl} {a b : List (Nat × Nat)} (h1 : Diff P K rs rs' a) (h2 : Diff P K rs rs' b) : a = b :=
  order_eq (R := fun x y : Nat × Nat => x.1 < y.1 ∨ (x.1 = y.1 ∧ x.2 < y.2)) (fun a h => by omega) (fun a b h1 h2 => by omega) _ _ h1.1 h2.1 (fun x => by obtain ⟨i, c⟩ := x; rw [h1.2, h2.2])
theorem MvF.from {W0 W W' : World} {F F' : Nat → Prop} (h : MvF W W' F F') (hk : Keeps (fun _ => False) W0 W) (hF : ∀ k, F k → W0.heap.size ≤ k) : Keeps (fun _ => False) W0 W' ∧ ∀ k, F' k → W0.heap.size ≤ k :=
  ⟨hk.trans_new h.keeps (fun q hq hf => by have := hF q hf; omega), fun k hk2 => by
    rcases h.fp k hk2 with e | e
    · exact hF k e
    · exact Nat.le_trans hk.size e⟩
def exA : Rl := ⟨1, 3, 2, 0, 0, 0⟩
def exB : Rl := ⟨2, 0, 0, 3, 0, 0⟩
theorem ex_a {i c : Nat} : Der 2 [exA] i c ↔ i = 3 ∧ c = 2 := by
  constructor
  · intro h
    induction h with
    | mem r h1 h2 => simp only [List.mem_singleton] at h1; subst h1; exact ⟨rfl, rfl⟩
    | incl r c h1 h2 => simp only [List.mem_singleton] at h1; subst h1; cases h2
    | link r x c h1 h2 => simp only [List.mem_singleton] at h1; subst h1; cases h2
    | both r c h1 h2 => simp only [List.mem_singleton] at h1; subst h1; cases h2
  · rintro ⟨rfl, rfl⟩
    exact Der.mem exA (by simp) rfl
theorem ex_b {i c : Nat} : Der 2 [exA, exB] i c ↔ (i = 3 ∧ c = 2) ∨ (i = 0 ∧ c = 2) := by
  constructor
  · intro h
    induction h with
    | mem r h1 h2 =>
      simp only [List.mem_cons, List.not_mem_nil, or_false] at h1
      rcases h1 with rfl | rfl
      · exact .inl ⟨rfl, rfl⟩
      · cases h2
    | incl r c h1 h2 _ ih =>
      simp only [List.mem_cons, List.not_mem_nil, or_false] at h1
      rcases h1 with rfl | rfl
      · cases h2
      · rcases ih with ⟨_, e⟩ | ⟨_, e⟩ <;> exact .inr ⟨rfl, e⟩
    | link r x c h1 h2 =>
      simp only [List.mem_cons, List.not_mem_nil, or_false] at h1
      rcases h1 with rfl | rfl <;> cases h2
    | both r c h1 h2 =>
      simp only [List.mem_cons, List.not_mem_nil, or_false] at h1
      rcases h1 with rfl | rfl <;> cases h2
  · have h3 : Der 2 [exA, exB] 3 2 := Der.mem exA (by simp) rfl
    rintro (⟨rfl, rfl⟩ | ⟨rfl, rfl⟩)
    · exact h3
    · exact Der.incl exB 2 (by simp) rfl h3
theorem ex_ans {ans : List (Nat × Nat)} (h : Diff 3 2 [exA] [exA, exB] ans) : ans = [(0, 2)] := by
  refine h.eq ⟨List.pairwise_singleton _ _, fun i c => ?_⟩
  rw [ex_a, ex_b, List.mem_singleton, Prod.mk.injEq]
  omega
theorem ex_tot {In : Nat → Nat → Bool} (h : ∀ i c, In i c = true ↔ i < 3 * 2 ∧ c < 3 ∧ Der 2 [exA, exB] i c) : totIn 3 (3 * 2) In = 2 := by
  have e : In = fun i c => decide ((i = 3 ∧ c = 2) ∨ (i = 0 ∧ c = 2)) := by
    funext i c
    rw [Bool.eq_iff_iff, h, ex_b, decide_eq_true_eq]
    omega
  rw [e]
  decide
theorem ex_add1 {rs' : List Rl} {ans : List (Nat × Nat)} {code : Int} (h : AddR 3 2 [] exA rs' ans code) : rs' = [exA] ∧ code = 0 := by
  rcases h with ⟨h, _⟩ | ⟨_, h, _⟩ | ⟨_, _, h1, _, h2⟩
  · exact absurd h (by decide)
  · cases h
  · exact ⟨h1, h2⟩
theorem ex_add2 {rs' : List Rl} {ans : List (Nat × Nat)} {code : Int} (h : AddR 3 2 [exA] exB rs' ans code) : rs' = [exA, exB] ∧ code = 0 ∧ ans = [(0, 2)] := by
  rcases h with ⟨h, _⟩ | ⟨_, h, _⟩ | ⟨_, _, h1, h3, h2⟩
  · exact absurd h (by decide)
  · exact absurd h (by decide)
  · exact ⟨h1, h2, ex_ans h3⟩
set_option maxRecDepth 100000
set_option maxHeartbeats 3200000
theorem lives43_any (w : World) (hT : TabIn w) : Calls Tryd.prog 6 #[] w fun e w' => e = .returned (.bool true) ∧ Hid (Keeps (fun _ => False) w w') := by
  have HN := Lib.hid (lnew_spec (z := w.heap.size) (p := 3) (k := 2) (P := 3) (K := 2) (by unfold Within; omega) (by unfold Within; omega) w (Nat.le_refl _))
  have htl := hT.lt
  have HT := Lib.hid hT
  clear hT
  go_enter Tryd.func6, Tryd.ntmps6
  go_upto_region 2 with (go_at_call 7; refine HN.out.mono ?_; rintro e w1 ⟨lb, Fp, rfl, hn⟩)
  have HA := Lib.hid (add_spec hn.out.1 htl hn.out.2.1.size (HT.out.keeps hn.out.2.1 (fun x => x)) (by simp) exA)
  unfold exA at HA
  clear HN
  go_upto_region 3 with (go_at_call 8; refine HA.out.mono ?_; rintro e w2 ⟨u1, code1, rs1, ans1, Fp1, rfl, h1⟩)
  obtain ⟨rfl, rfl⟩ := ex_add1 h1.out.2.2.2.2
  obtain ⟨k2, f2⟩ := h1.out.2.1.from hn.out.2.1 hn.out.2.2
  have HB := Lib.hid (add_spec h1.out.1 htl k2.size (HT.out.keeps k2 (fun x => x)) (by simp) exB)
  unfold exB at HB
  have HK2 := Lib.hid (And.intro k2 f2)
  have HI1 := Lib.hid h1.out.2.1
  clear HA hn k2 f2 h1
  go_upto_region 4 with (go_at_call 8; refine HB.out.mono ?_; rintro e w3 ⟨u2, code2, rs2, ans2, Fp2, rfl, h2⟩)
  obtain ⟨rfl, rfl, rfl⟩ := ex_add2 h2.out.2.2.2.2
  obtain ⟨k3, f3⟩ := h2.out.2.1.from HK2.out.1 HK2.out.2
  have HL := Lib.hid (llen_spec h2.out.1)
  obtain ⟨ao, cap, rfl, _, hr⟩ := h2.out.2.2.1
  obtain ⟨g, o, rfl, _, hc⟩ := hr (by simp)
  obtain ⟨q0, q1⟩ := hc 0 _ rfl
  simp only [Nat.zero_mul, Nat.add_zero] at q0 q1
  have HK3 := Lib.hid k3
  have heq := fun W => pair_eql 0 2 0 2 W
  clear HB HK2 HI1 h2 k3 f3 hr hc
  go_wp2_with (go_at_call 14; refine HL.out.mono ?_; rintro e w4 ⟨n, rfl, rfl, hx⟩; obtain ⟨In, hn2, hIn⟩ := hx.out; rw [ex_tot hIn] at hn2; subst hn2; clear hx hIn)
  go_ret
  exact ⟨rfl, HK3⟩
end Go.Proofs.YtaabmkebbnkonaaDoor
