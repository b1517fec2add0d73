/-
  How many nodes a diagram has hangs on where it is true alone; orders got by changing neighbours. No program in sight.
-/
import Derived.Test.YtfakjhcpaiaekaaMG
import Derived.Test.YtfakjhcpaiaekaaOrdPlain
set_option linter.unusedVariables false
set_option linter.unusedSimpArgs false
set_option linter.unnecessarySimpa false
namespace Go.Proofs.Ytfakjhcpaiaekaa
open Go.ChangeShapes Go.WideShapes Go.ChangeAt Go.RowKit Go.Deep NodePlain
section
variable {V : Int} {L L' : Nat → Nd} {n n' : Nat}
/-- Two that are true at the same are one. -/
theorem canonV (hV0 : 0 ≤ V) (g : NodePlain.Good V L n) {a b : Int} (ha : isN n a = true) (hb : isN n b = true) (h : ∀ β, ev L β a = ev L β b) : a = b := by
  obtain ⟨k, hk⟩ := Int.eq_ofNat_of_zero_le hV0
  exact once_bits g k hk ha hb (fun j _ => h _)
/-- A diagram of one table, one of another, true at the same. -/
structure SameD (L : Nat → Nd) (n : Nat) (L' : Nat → Nd) (n' : Nat) (f f' : Int) : Prop where
  a : isN n f = true
  b : isN n' f' = true
  ev : ∀ β, ev L β f = NodePlain.ev L' β f'
theorem node_parts (g : NodePlain.Good V L n) {f u lo hi : Int} (hf : isN n f = true) (h : getN L n f = some (u, lo, hi)) : 2 ≤ f ∧ 0 ≤ u ∧ u = varN V L n f ∧ isN n lo = true ∧ isN n hi = true ∧ u < varN V L n lo ∧ u < varN V L n hi ∧ lo ≠ hi ∧ ∀ β, ev L β f = if β u.toNat then ev L β hi else ev L β lo := by
  rw [isN_iff] at hf
  by_cases h2 : 2 ≤ f
  · obtain ⟨m, rfl⟩ : ∃ m : Nat, f = m + 2 := ⟨(f - 2).toNat, by omega⟩
    have hm : m < n := by omega
    unfold getN at h
    rw [if_pos ⟨h2, hf.2⟩, show ((m : Int) + 2 - 2).toNat = m by omega] at h
    simp only [Option.some.injEq] at h
    obtain ⟨p1, p2, p3, p4, p5, p6, p7, p8, p9⟩ := g.node m hm
    have hv := var_node (V := V) (L := L) hm
    have he := fun β => ev_node g β m hm
    rw [h] at p1 p2 p3 p4 p5 p6 p7 p8 p9 hv
    simp only [h] at he
    simp only [] at p1 p2 p3 p4 p5 p6 p7 p8 p9 hv
    exact ⟨h2, p1, hv.symm, isN_iff.2 ⟨p3, by omega⟩, isN_iff.2 ⟨p5, by omega⟩, p7, p8, p9, he⟩
  · unfold getN at h
    rw [if_neg (by omega)] at h; cases h
theorem none_low {f : Int} (hf : isN n f = true) (h : getN L n f = none) : f < 2 := by
  rw [isN_iff] at hf
  by_cases h2 : 2 ≤ f
  · unfold getN at h
    rw [if_pos ⟨h2, hf.2⟩] at h; cases h
  · omega
theorem half_put (g : NodePlain.Good V L n) {f u lo hi : Int} (hf : isN n f = true) (h : getN L n f = some (u, lo, hi)) (so : Bool) (β : Nat → Bool) : ev L (putB β u so) f = ev L β (if so then hi else lo) := by
  obtain ⟨_, h0, hu, il, ih, vl, vh, _, he⟩ := node_parts g hf h
  rw [he, putB_same (Int.toNat_of_nonneg h0)]
  cases so
  · rw [if_neg (by decide), if_neg (by decide)]; exact ev_above g il vl β
  · rw [if_pos rfl, if_pos rfl]; exact ev_above g ih vh β
theorem same_node (hV0 : 0 ≤ V) (g : NodePlain.Good V L n) (g' : NodePlain.Good V L' n') {f f' : Int} (s : SameD L n L' n' f f') :
    (getN L n f = none ∧ getN L' n' f' = none) ∨ ∃ u lo hi lo' hi', getN L n f = some (u, lo, hi) ∧ getN L' n' f' = some (u, lo', hi') ∧ SameD L n L' n' lo lo' ∧ SameD L n L' n' hi hi' := by
  have low : ∀ {M M' : Nat → Nd} {q q' : Nat} {a b : Int}, NodePlain.Good V M' q' → SameD M q M' q' a b → a < 2 → a = b := fun {M M' q q' a b} gm s h => by
    have ha := isN_iff.1 s.a
    refine canonV hV0 gm (isN_iff.2 ⟨ha.1, by omega⟩) s.b (fun β => ?_)
    rw [ev_low _ _ _ h, ← ev_low M β a h]
    exact s.ev β
  have sw : SameD L' n' L n f' f := ⟨s.b, s.a, fun β => (s.ev β).symm⟩
  cases hf : getN L n f with
  | none =>
    have h2 := none_low s.a hf
    have e := low g' s h2
    refine .inl ⟨rfl, ?_⟩
    unfold getN
    rw [if_neg (by omega)]
  | some p =>
    obtain ⟨u, lo, hi⟩ := p
    cases hf' : getN L' n' f' with
    | none =>
      have h2 := none_low s.b hf'
      have e := low g sw h2
      have := (node_parts g s.a hf).1
      omega
    | some p' =>
      obtain ⟨u', lo', hi'⟩ := p'
      obtain ⟨a1, a2, a3, a4, a5, a6, a7, a8, a9⟩ := node_parts g s.a hf
      obtain ⟨b1, b2, b3, b4, b5, b6, b7, b8, b9⟩ := node_parts g' s.b hf'
      have key : ∀ {M M' : Nat → Nd} {q q' : Nat} {a b x lo hi : Int}, NodePlain.Good V M q → NodePlain.Good V M' q' → SameD M q M' q' a b → getN M q a = some (x, lo, hi) → x < varN V M' q' b → False := fun {M M' q q' a b x lo hi} gm gm' s h hx => by
        obtain ⟨_, _, _, il, ih, _, _, ne, _⟩ := node_parts gm s.a h
        refine ne (canonV hV0 gm il ih (fun β => ?_))
        have e1 := half_put gm s.a h false β
        have e2 := half_put gm s.a h true β
        rw [if_neg (by decide)] at e1
        rw [if_pos rfl] at e2
        rw [← e1, ← e2, s.ev, s.ev, ev_above gm' s.b hx, ev_above gm' s.b hx]
      have huu : u = u' := by
        rcases Int.lt_trichotomy u u' with h | h | h
        · exact (key g g' s hf (by omega)).elim
        · exact h
        · exact (key g' g sw hf' (by omega)).elim
      subst huu
      refine .inr ⟨u, lo, hi, lo', hi', rfl, rfl, ⟨a4, b4, fun β => ?_⟩, ⟨a5, b5, fun β => ?_⟩⟩
      · have e1 := half_put g s.a hf false β
        have e2 := half_put g' s.b hf' false β
        rw [if_neg (by decide)] at e1 e2
        rw [← e1, ← e2, s.ev]
      · have e1 := half_put g s.a hf true β
        have e2 := half_put g' s.b hf' true β
        rw [if_pos rfl] at e1 e2
        rw [← e1, ← e2, s.ev]
/-- Two lists of diagrams, one by one true at the same. -/
inductive SameL (L : Nat → Nd) (n : Nat) (L' : Nat → Nd) (n' : Nat) : List Int → List Int → Prop where
  | nil : SameL L n L' n' [] []
  | cons (a b : Int) (l m : List Int) : SameD L n L' n' a b → SameL L n L' n' l m → SameL L n L' n' (a :: l) (b :: m)
theorem SameL.snoc {l m : List Int} (h : SameL L n L' n' l m) {a b : Int} (s : SameD L n L' n' a b) : SameL L n L' n' (l ++ [a]) (m ++ [b]) := by
  induction h with
  | nil => exact .cons _ _ _ _ s .nil
  | cons x y l m h1 _ ih => exact .cons _ _ _ _ h1 ih
theorem SameL.len {l m : List Int} (h : SameL L n L' n' l m) : l.length = m.length := by
  induction h with
  | nil => rfl
  | cons x y l m _ _ ih => rw [List.length_cons, List.length_cons, ih]
theorem SameL.mem (hV0 : 0 ≤ V) (g : NodePlain.Good V L n) (g' : NodePlain.Good V L' n') {l m : List Int} (h : SameL L n L' n' l m) {a b : Int} (s : SameD L n L' n' a b) : a ∈ l ↔ b ∈ m := by
  induction h with
  | nil => simp
  | cons x y l m h1 _ ih =>
    have e : a = x ↔ b = y := ⟨fun e => by subst e; exact canonV hV0 g' s.b h1.b (fun β => by rw [← s.ev, h1.ev]), fun e => by subst e; exact canonV hV0 g s.a h1.a (fun β => by rw [s.ev, ← h1.ev])⟩
    rw [List.mem_cons, List.mem_cons, e, ih]
theorem Dfs.same (hV0 : 0 ≤ V) (g : NodePlain.Good V L n) (g' : NodePlain.Good V L' n') {K K1 : List Int} {f : Int} (h : Dfs L n K f K1) : ∀ {K' K1' : List Int} {f' : Int}, SameL L n L' n' K K' → SameD L n L' n' f f' → Dfs L' n' K' f' K1' → SameL L n L' n' K1 K1' := by
  induction h with
  | stop K f h =>
    intro K' K1' f' hk hf d
    cases d with
    | stop _ _ _ => exact hk
    | step _ _ _ _ u lo hi h1 h2 _ _ =>
      rcases same_node hV0 g g' hf with ⟨_, e⟩ | ⟨u', _, _, _, _, e, _⟩
      · rw [e] at h2; cases h2
      · rcases h with h | h
        · exact absurd ((hk.mem hV0 g g' hf).1 h) h1
        · rw [h] at e; cases e
  | step K K1 K2 f u lo hi h1 h2 _ _ ih1 ih2 =>
    intro K' K2' f' hk hf d
    rcases same_node hV0 g g' hf with ⟨e, _⟩ | ⟨u0, lo0, hi0, lo', hi', e, e', sl, sh⟩
    · rw [e] at h2; cases h2
    · rw [h2] at e
      simp only [Option.some.injEq, Prod.mk.injEq] at e
      obtain ⟨rfl, rfl, rfl⟩ := e
      cases d with
      | stop _ _ h =>
        rcases h with h | h
        · exact absurd ((hk.mem hV0 g g' hf).2 h) h1
        · rw [h] at e'; cases e'
      | step _ Q1 _ _ u1 lo1 hi1 g1 g2 g3 g4 =>
        rw [e'] at g2
        simp only [Option.some.injEq, Prod.mk.injEq] at g2
        obtain ⟨_, rfl, rfl⟩ := g2
        exact ih2 (ih1 (hk.snoc hf) sl g3) sh g4
theorem SizeN.same (hV0 : 0 ≤ V) (g : NodePlain.Good V L n) (g' : NodePlain.Good V L' n') {f f' : Int} (s : SameD L n L' n' f f') {a b : Nat} (h : SizeN L n f a) (h' : SizeN L' n' f' b) : a = b := by
  obtain ⟨K, h1, rfl⟩ := h
  obtain ⟨K', h2, rfl⟩ := h'
  exact (h1.same hV0 g g' .nil s h2).len
end
/-- A function of bits whose diagram has so many nodes. -/
def SzS (V : Int) (S : (Nat → Bool) → Bool) (s : Nat) : Prop := ∃ L n x, NodePlain.Good V L n ∧ isN n x = true ∧ (∀ β, ev L β x = S β) ∧ SizeN L n x s
theorem SzS.one {V : Int} (hV0 : 0 ≤ V) {S : (Nat → Bool) → Bool} {s t : Nat} (h : SzS V S s) (k : SzS V S t) : s = t := by
  obtain ⟨L, n, x, g, hx, he, hs⟩ := h
  obtain ⟨L', n', x', g', hx', he', hs'⟩ := k
  exact hs.same hV0 g g' ⟨hx, hx', fun β => by rw [he, he']⟩ hs'
/-- A number for each row, the size if there is one. -/
theorem sizes_of {V : Int} (hV0 : 0 ≤ V) (S : List Int → (Nat → Bool) → Bool) : ∃ σ : List Int → Nat, ∀ l s, SzS V (S l) s → σ l = s := by
  have : ∀ l, ∃ s, ∀ t, SzS V (S l) t → s = t := fun l => by
    by_cases h : ∃ s, SzS V (S l) s
    · obtain ⟨s, hs⟩ := h
      exact ⟨s, fun t ht => hs.one hV0 ht⟩
    · exact ⟨0, fun t ht => (h ⟨t, ht⟩).elim⟩
  exact ⟨fun l => Classical.choose (this l), fun l s h => Classical.choose_spec (this l) s h⟩
/-- Two neighbours of an order changed. -/
def swapL (now : List Int) (i : Nat) : List Int := now.map fun x => if x = (i : Int) then (i : Int) + 1 else if x = (i : Int) + 1 then (i : Int) else x
/-- One round: the best of the rows reached by one change. -/
def roundB (σ : List Int → Nat) (now : List Int) : Nat → List Int × Nat → List Int × Nat
  | 0, b => b
  | i + 1, b => if σ (swapL now i) < (roundB σ now i b).2 then (swapL now i, σ (swapL now i)) else roundB σ now i b
def stepB (σ : List Int → Nat) (k : Nat) (b : List Int × Nat) : List Int × Nat := roundB σ b.1 (k - 1) b
def bestB (σ : List Int → Nat) (k : Nat) (b : List Int × Nat) : Nat → List Int × Nat
  | 0 => b
  | r + 1 => stepB σ k (bestB σ k b r)
theorem round_le (σ : List Int → Nat) (now : List Int) (b : List Int × Nat) : ∀ i, (roundB σ now i b).2 ≤ b.2
  | 0 => Nat.le_refl _
  | i + 1 => by
    have := round_le σ now b i
    unfold roundB
    split
    · rename_i h
      show σ (swapL now i) ≤ b.2
      omega
    · exact this
theorem round_stay (σ : List Int → Nat) (now : List Int) (b : List Int × Nat) : ∀ i, (roundB σ now i b).2 = b.2 → roundB σ now i b = b
  | 0, _ => rfl
  | i + 1, h => by
    have := round_le σ now b i
    unfold roundB at h ⊢
    split at h
    · rename_i hlt
      rw [if_pos hlt]
      have h2 : σ (swapL now i) = b.2 := h
      omega
    · rename_i hlt
      rw [if_neg hlt]
      exact round_stay σ now b i h
theorem best_stay (σ : List Int → Nat) (k : Nat) (b : List Int × Nat) {r : Nat} (h : (bestB σ k b (r + 1)).2 = (bestB σ k b r).2) : ∀ q, r ≤ q → bestB σ k b q = bestB σ k b r
  | 0, hq => by obtain rfl : r = 0 := by omega
                rfl
  | q + 1, hq => by
    by_cases e : r = q + 1
    · rw [e]
    · have ih := best_stay σ k b h q (by omega)
      have e1 : bestB σ k b (r + 1) = bestB σ k b r := round_stay σ _ _ _ h
      show stepB σ k (bestB σ k b q) = _
      rw [ih]
      exact e1
theorem swap_ord {k : Nat} {l : List Int} (h : ordB k l = true) {i : Nat} (hi : i + 1 < k) : ordB k (swapL l i) = true := by
  obtain ⟨h1, h2, h3, h4, h5⟩ := ordB_iff.1 h
  have hinj : ∀ x y : Int, (if x = (i : Int) then (i : Int) + 1 else if x = (i : Int) + 1 then (i : Int) else x) = (if y = (i : Int) then (i : Int) + 1 else if y = (i : Int) + 1 then (i : Int) else y) → x = y := fun x y e => by
    by_cases a1 : x = (i : Int) <;> by_cases a2 : x = (i : Int) + 1 <;> by_cases b1 : y = (i : Int) <;> by_cases b2 : y = (i : Int) + 1 <;> simp only [a1, a2, b1, b2, if_true, if_false] at e ⊢ <;> omega
  refine ordB_iff.2 ⟨h1, h2, by unfold swapL; rw [List.length_map]; exact h3, fun x hx => ?_, ?_⟩
  · obtain ⟨y, hy, rfl⟩ := List.mem_map.1 hx
    have := h4 y hy
    split
    · omega
    · split <;> omega
  · refine List.pairwise_iff_getElem.2 fun a b ha hb hab => ?_
    unfold swapL at ha hb ⊢
    rw [List.length_map] at ha hb
    rw [List.getElem_map, List.getElem_map]
    intro e
    exact List.pairwise_iff_getElem.1 h5 a b ha hb hab (hinj _ _ e)
theorem round_ord (σ : List Int → Nat) {k : Nat} {now : List Int} {b : List Int × Nat} (hn : ordB k now = true) (hb : ordB k b.1 = true) : ∀ i, i < k → ordB k (roundB σ now i b).1 = true
  | 0, _ => hb
  | i + 1, h => by
    unfold roundB
    split
    · exact swap_ord hn h
    · exact round_ord σ hn hb i (by omega)
theorem best_ord (σ : List Int → Nat) {k : Nat} (hk : 0 < k) {b : List Int × Nat} (hb : ordB k b.1 = true) : ∀ r, ordB k (bestB σ k b r).1 = true
  | 0 => hb
  | r + 1 => round_ord σ (best_ord σ hk hb r) (best_ord σ hk hb r) (k - 1) (by omega)
/-- In a least row the size is what is told. -/
theorem round_size (σ : List Int → Nat) {now : List Int} {b : List Int × Nat} (hb : σ b.1 = b.2) : ∀ i, σ (roundB σ now i b).1 = (roundB σ now i b).2
  | 0 => hb
  | i + 1 => by
    unfold roundB
    split
    · rfl
    · exact round_size σ hb i
theorem best_size (σ : List Int → Nat) {k : Nat} {b : List Int × Nat} (hb : σ b.1 = b.2) : ∀ r, σ (bestB σ k b r).1 = (bestB σ k b r).2
  | 0 => hb
  | r + 1 => round_size σ (best_size σ hb r) (k - 1)
theorem best_le (σ : List Int → Nat) {k : Nat} (b : List Int × Nat) : ∀ r, (bestB σ k b r).2 ≤ b.2
  | 0 => Nat.le_refl _
  | r + 1 => Nat.le_trans (round_le σ _ _ _) (best_le σ b r)
end Go.Proofs.Ytfakjhcpaiaekaa
