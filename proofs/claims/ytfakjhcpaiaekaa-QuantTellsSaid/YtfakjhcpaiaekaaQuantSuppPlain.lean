/-
  Which variables a diagram hangs on: those of its nodes; numbers sorted, each once. No program in sight.
-/
import Derived.Test.YtfakjhcpaiaekaaBestPlain
import Derived.Lib.SlicesCompact
set_option linter.unusedVariables false
set_option linter.unusedSimpArgs false
set_option linter.unnecessarySimpa false
namespace Go.Proofs.Ytfakjhcpaiaekaa
open NodePlain
/-- What a diagram comes to. -/
inductive ReachN (L : Nat → Nd) (n : Nat) (f : Int) : Int → Prop where
  | refl : ReachN L n f f
  | lo (x u lo hi : Int) : ReachN L n f x → getN L n x = some (u, lo, hi) → ReachN L n f lo
  | hi (x u lo hi : Int) : ReachN L n f x → getN L n x = some (u, lo, hi) → ReachN L n f hi
theorem ReachN.trans {L : Nat → Nd} {n : Nat} {f x y : Int} (h : ReachN L n f x) (k : ReachN L n x y) : ReachN L n f y := by
  induction k with
  | refl => exact h
  | lo x u lo hi _ hg ih => exact .lo x u lo hi ih hg
  | hi x u lo hi _ hg ih => exact .hi x u lo hi ih hg
structure DfsAll (L : Nat → Nd) (n : Nat) (K : List Int) (f : Int) (K1 : List Int) : Prop where
  sub : ∀ x ∈ K, x ∈ K1
  at_ : f ∈ K1 ∨ getN L n f = none
  known : ∀ x ∈ K1, x ∈ K ∨ (getN L n x).isSome
  reach : ∀ x ∈ K1, x ∈ K ∨ ReachN L n f x
  kids : ∀ x ∈ K1, x ∉ K → ∀ u lo hi, getN L n x = some (u, lo, hi) → (lo ∈ K1 ∨ getN L n lo = none) ∧ (hi ∈ K1 ∨ getN L n hi = none)
theorem Dfs.all {L : Nat → Nd} {n : Nat} {K K1 : List Int} {f : Int} (h : Dfs L n K f K1) : DfsAll L n K f K1 := by
  induction h with
  | stop K f h => exact ⟨fun _ h => h, h, fun _ h => .inl h, fun _ h => .inl h, fun _ h hn => absurd h hn⟩
  | step K K1 K2 f u lo hi h1 h2 _ _ i1 i2 =>
    have hf1 : f ∈ K1 := i1.sub f (by simp)
    refine ⟨fun x hx => i2.sub x (i1.sub x (by simp [hx])), .inl (i2.sub f hf1), fun x hx => ?_, fun x hx => ?_, fun x hx hn u' lo' hi' hg => ?_⟩
    · rcases i2.known x hx with h | h
      · rcases i1.known x h with h | h
        · rcases List.mem_append.1 h with h | h
          · exact .inl h
          · obtain rfl : x = f := by simpa using h
            exact .inr (by rw [h2]; rfl)
        · exact .inr h
      · exact .inr h
    · rcases i2.reach x hx with h | h
      · rcases i1.reach x h with h | h
        · rcases List.mem_append.1 h with h | h
          · exact .inl h
          · obtain rfl : x = f := by simpa using h
            exact .inr .refl
        · exact .inr ((ReachN.lo f u lo hi .refl h2).trans h)
      · exact .inr ((ReachN.hi f u lo hi .refl h2).trans h)
    · by_cases hxf : x = f
      · subst hxf
        rw [h2] at hg
        simp only [Option.some.injEq, Prod.mk.injEq] at hg
        obtain ⟨rfl, rfl, rfl⟩ := hg
        exact ⟨i1.at_.imp (fun h => i2.sub _ h) id, i2.at_⟩
      · by_cases hk : x ∈ K1
        · obtain ⟨a, b⟩ := i1.kids x hk (by simp [hn, hxf]) u' lo' hi' hg
          exact ⟨a.imp (fun h => i2.sub _ h) id, b.imp (fun h => i2.sub _ h) id⟩
        · exact i2.kids x hx hk u' lo' hi' hg
section
variable {V : Int} {L : Nat → Nd} {n : Nat}
theorem ReachN.is (g : NodePlain.Good V L n) {f x : Int} (h : ReachN L n f x) (hf : isN n f = true) : isN n x = true := by
  induction h with
  | refl => exact hf
  | lo x u lo hi _ hg ih => exact (node_parts g ih hg).2.2.2.1
  | hi x u lo hi _ hg ih => exact (node_parts g ih hg).2.2.2.2.1
theorem ReachN.ev (g : NodePlain.Good V L n) {f x : Int} (h : ReachN L n f x) (hf : isN n f = true) : ∃ α : Nat → Bool, ∀ β : Nat → Bool, (∀ i : Nat, (i : Int) < varN V L n x → β i = α i) → NodePlain.ev L β f = NodePlain.ev L β x := by
  induction h with
  | refl => exact ⟨fun _ => false, fun _ _ => rfl⟩
  | lo x u lo hi hr hg ih =>
    obtain ⟨α, ha⟩ := ih
    obtain ⟨a1, a2, a3, a4, a5, a6, a7, a8, a9⟩ := node_parts g (hr.is g hf) hg
    refine ⟨putB α u false, fun β hb => ?_⟩
    have hu : β u.toNat = false := by rw [hb _ (by rw [Int.toNat_of_nonneg a2]; omega), putB_same (Int.toNat_of_nonneg a2)]
    rw [ha β (fun i hi' => by rw [hb i (by omega), putB_other (by omega)]), a9 β, hu]
    rfl
  | hi x u lo hi hr hg ih =>
    obtain ⟨α, ha⟩ := ih
    obtain ⟨a1, a2, a3, a4, a5, a6, a7, a8, a9⟩ := node_parts g (hr.is g hf) hg
    refine ⟨putB α u true, fun β hb => ?_⟩
    have hu : β u.toNat = true := by rw [hb _ (by rw [Int.toNat_of_nonneg a2]; omega), putB_same (Int.toNat_of_nonneg a2)]
    rw [ha β (fun i hi' => by rw [hb i (by omega), putB_other (by omega)]), a9 β, hu]
    rfl
/-- A function hangs on a variable. -/
def DepE (E : (Nat → Bool) → Bool) (v : Int) : Prop := ∃ β, E (putB β v false) ≠ E (putB β v true)
theorem reach_dep {k : Nat} (g : NodePlain.Good (k : Int) L n) {f x u lo hi : Int} (h : ReachN L n f x) (hf : isN n f = true) (hg : getN L n x = some (u, lo, hi)) : DepE (fun β => NodePlain.ev L β f) u := by
  have hx := h.is g hf
  obtain ⟨a1, a2, a3, a4, a5, a6, a7, a8, a9⟩ := node_parts g hx hg
  obtain ⟨α, ha⟩ := h.ev g hf
  obtain ⟨j, hj⟩ : ∃ j : Nat, NodePlain.ev L (Nat.testBit j) lo ≠ NodePlain.ev L (Nat.testBit j) hi := Classical.byContradiction fun hn => a8 (once_bits g k rfl a4 a5 (fun j _ => Classical.byContradiction fun e => hn ⟨j, e⟩))
  obtain ⟨γ, hγ⟩ : ∃ γ : Nat → Bool, (fun i : Nat => if (i : Int) < u then α i else Nat.testBit j i) = γ := ⟨_, rfl⟩
  have hlow : ∀ so, NodePlain.ev L (putB γ u so) f = NodePlain.ev L (putB γ u so) x := fun so => ha _ (fun i hi' => by
    rw [putB_other (by omega), ← hγ]
    show (if (i : Int) < u then α i else _) = α i
    rw [if_pos (by omega)])
  have hcl : ∀ y : Int, isN n y = true → u < varN (k : Int) L n y → NodePlain.ev L γ y = NodePlain.ev L (Nat.testBit j) y := fun y hy hv => by
    rw [isN_iff] at hy
    refine ev_from g (w := u + 1) (fun i hi' => ?_) (y.toNat + 1) y (by omega) (by omega) (by omega)
    rw [← hγ]
    show (if (i : Int) < u then α i else _) = _
    rw [if_neg (by omega)]
  refine ⟨γ, fun e => hj ?_⟩
  have e' : NodePlain.ev L (putB γ u false) f = NodePlain.ev L (putB γ u true) f := e
  have h0 := half_put g hx hg false γ
  have h1 := half_put g hx hg true γ
  rw [if_neg (by decide)] at h0
  rw [if_pos rfl] at h1
  rw [hlow, hlow, h0, h1, hcl lo a4 a6, hcl hi a5 a7] at e'
  exact e'
/-- A diagram no node of which has the variable. -/
theorem no_dep (g : NodePlain.Good V L n) {K : List Int} (hk : ∀ x ∈ K, ∀ u lo hi, getN L n x = some (u, lo, hi) → (lo ∈ K ∨ getN L n lo = none) ∧ (hi ∈ K ∨ getN L n hi = none)) {v : Int} (hv : ∀ x ∈ K, ∀ u lo hi, getN L n x = some (u, lo, hi) → u ≠ v) (so : Bool) (β : Nat → Bool) (m : Nat) : ∀ x : Int, x.toNat = m → isN n x = true → (x ∈ K ∨ getN L n x = none) → NodePlain.ev L (putB β v so) x = NodePlain.ev L β x := by
  induction m using Nat.strongRecOn with
  | _ m ih =>
  intro x hm hx hx2
  rcases hg : getN L n x with _ | ⟨u, lo, hi⟩
  · have hl := none_low hx hg
    rw [ev_low _ _ x hl, ev_low _ _ x hl]
  · have hxK : x ∈ K := hx2.resolve_right (by rw [hg]; simp)
    obtain ⟨a1, a2, a3, a4, a5, a6, a7, a8, a9⟩ := node_parts g hx hg
    have hlt : lo.toNat < x.toNat ∧ hi.toNat < x.toNat := by
      obtain ⟨i, rfl⟩ : ∃ i : Nat, x = (i : Int) + 2 := ⟨(x - 2).toNat, by omega⟩
      have hi' := isN_iff.1 hx
      obtain ⟨p1, p2, p3, p4, p5, p6, _⟩ := g.node i (by omega)
      have hL : L i = (u, lo, hi) := by
        unfold getN at hg
        rw [if_pos ⟨a1, hi'.2⟩, show ((i : Int) + 2 - 2).toNat = i from by omega] at hg
        exact Option.some.inj hg
      rw [hL] at p3 p4 p5 p6
      simp only [] at p3 p4 p5 p6
      omega
    obtain ⟨k1, k2⟩ := hk x hxK u lo hi hg
    have hne := hv x hxK u lo hi hg
    rw [a9, a9, putB_other (show ((u.toNat : Nat) : Int) ≠ v by rw [Int.toNat_of_nonneg a2]; exact hne), ih _ (by omega) lo rfl a4 k1, ih _ (by omega) hi rfl a5 k2]
end
/-- The variables of all nodes are those that it hangs on. -/
theorem dfs_vars {k : Nat} {L : Nat → Nd} {n : Nat} (g : NodePlain.Good (k : Int) L n) {f : Int} {K : List Int} (h : Dfs L n [] f K) (hf : isN n f = true) (v : Int) : (∃ x ∈ K, ∃ lo hi, getN L n x = some (v, lo, hi)) ↔ DepE (fun β => NodePlain.ev L β f) v := by
  have ha := h.all
  constructor
  · rintro ⟨x, hx, lo, hi, hg⟩
    exact reach_dep g ((ha.reach x hx).resolve_left (by simp)) hf hg
  · rintro ⟨β, hb⟩
    refine Classical.byContradiction fun hn => hb ?_
    have hk : ∀ x ∈ K, ∀ u lo hi, getN L n x = some (u, lo, hi) → (lo ∈ K ∨ getN L n lo = none) ∧ (hi ∈ K ∨ getN L n hi = none) := fun x hx u lo hi hg => ha.kids x hx (by simp) u lo hi hg
    have hv : ∀ x ∈ K, ∀ u lo hi, getN L n x = some (u, lo, hi) → u ≠ v := fun x hx u lo hi hg e => hn ⟨x, hx, lo, hi, e ▸ hg⟩
    show NodePlain.ev L (putB β v false) f = NodePlain.ev L (putB β v true) f
    rw [no_dep g hk hv false β _ f rfl hf ha.at_, no_dep g hk hv true β _ f rfl hf ha.at_]
open Go.Lib in
/-- Sorted numbers, each once. -/
theorem compact_mem (d : Array Int) (m : Nat) : ∀ j, j < m → d[j]! ∈ compactUpTo d m := by
  induction m with
  | zero => intro j hj; exact absurd hj (Nat.not_lt_zero _)
  | succ m ih =>
    intro j hj
    rw [compactUpTo_succ, List.mem_append]
    by_cases e : j = m
    · subst e
      by_cases hk : keeps d j = true
      · rw [if_pos hk]; exact .inr (by simp)
      · have h2 : ¬ (j = 0 ∨ d[j]! ≠ d[j - 1]!) := by
          intro h; exact hk (by unfold keeps; exact decide_eq_true h)
        have h3 : j ≠ 0 := fun h => h2 (.inl h)
        have h4 : d[j]! = d[j - 1]! := Classical.byContradiction fun h => h2 (.inr h)
        rw [h4]
        exact .inl (ih (j - 1) (by omega))
    · exact .inl (ih j (by omega))
open Go.Lib in
theorem compact_from (d : Array Int) (m : Nat) {x : Int} (h : x ∈ compactUpTo d m) : ∃ j, j < m ∧ x = d[j]! := by
  unfold compactUpTo at h
  obtain ⟨j, hj, rfl⟩ := List.mem_map.1 h
  exact ⟨j, List.mem_range.1 (List.mem_filter.1 hj).1, rfl⟩
open Go.Lib in
theorem compact_rises (d : Array Int) (hs : ∀ i j, i ≤ j → j < d.size → d[i]! ≤ d[j]!) (m : Nat) (hm : m ≤ d.size) : (compactUpTo d m).Pairwise (· < ·) := by
  unfold compactUpTo
  rw [List.pairwise_map]
  have hp : ((List.range m).filter (keeps d)).Pairwise (· < ·) := List.Pairwise.filter _ (by rw [List.range_eq_range']; exact List.pairwise_lt_range' (s := 0) (n := m) (step := 1) (by decide))
  refine hp.imp_of_mem ?_
  intro i j hi hj hlt
  have h1 := List.mem_filter.1 hj
  have hjm := List.mem_range.1 h1.1
  have hk : j = 0 ∨ d[j]! ≠ d[j - 1]! := of_decide_eq_true h1.2
  have h2 := hs i (j - 1) (by omega) (by omega)
  have h3 := hs (j - 1) j (by omega) (by omega)
  rcases hk with hk | hk
  · omega
  · omega
/-- Two rising lists of the same numbers are one. -/
theorem rises_eq : ∀ {a b : List Int}, a.Pairwise (· < ·) → b.Pairwise (· < ·) → (∀ x, x ∈ a ↔ x ∈ b) → a = b
  | [], [], _, _, _ => rfl
  | [], y :: b, _, _, h => absurd ((h y).2 (by simp)) (by simp)
  | x :: a, [], _, _, h => absurd ((h x).1 (by simp)) (by simp)
  | x :: a, y :: b, ha, hb, h => by
    have ha' := List.pairwise_cons.1 ha
    have hb' := List.pairwise_cons.1 hb
    have hxy : x = y := by
      have h1 := (h x).1 (by simp)
      have h2 := (h y).2 (by simp)
      rcases List.mem_cons.1 h1 with e | e
      · exact e
      · rcases List.mem_cons.1 h2 with e2 | e2
        · exact e2.symm
        · have := ha'.1 y e2
          have := hb'.1 x e
          omega
    subst hxy
    congr 1
    refine rises_eq ha'.2 hb'.2 (fun z => ?_)
    constructor
    · intro hz
      rcases List.mem_cons.1 ((h z).1 (List.mem_cons_of_mem _ hz)) with e | e
      · have := ha'.1 z hz; omega
      · exact e
    · intro hz
      rcases List.mem_cons.1 ((h z).2 (List.mem_cons_of_mem _ hz)) with e | e
      · have := hb'.1 z hz; omega
      · exact e
end Go.Proofs.Ytfakjhcpaiaekaa
