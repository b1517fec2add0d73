/-
  The plain laws of tables of nodes: what Make does, what a node is true at, and that two nodes true at the same bits are one. No program in sight.
-/
import Derived.Test.YtloidoekmicloaaNodePlain
set_option linter.unusedVariables false
set_option linter.unusedSimpArgs false
namespace Go.Proofs.Ytloidoekmicloaa.NodePlain

def isN (n : Nat) (k : Int) : Bool := decide (0 ≤ k ∧ k < n + 2)
def varN (V : Int) (L : Nat → Nd) (n : Nat) (k : Int) : Int := if 2 ≤ k ∧ k < n + 2 then (L (k - 2).toNat).1 else V
/-- May such a node be made? -/
def fitN (V : Int) (L : Nat → Nd) (n : Nat) (v lo hi : Int) : Bool := decide (0 ≤ v ∧ v < V ∧ isN n lo = true ∧ isN n hi = true ∧ v < varN V L n lo ∧ v < varN V L n hi)
def addN (L : Nat → Nd) (n : Nat) (x : Nd) : Nat → Nd := fun j => if j = n then x else L j

/-- What Make answers: the node, the error; and whether a node comes, or all is spent. -/
inductive Res where
  | bad | same | old (i : Nat) | spent | new
def resN (V B : Int) (L : Nat → Nd) (n : Nat) (v lo hi : Int) : Res :=
  if fitN V L n v lo hi = true then
    if lo = hi then .same
    else match idx L (v, lo, hi) n with
      | some i => .old i
      | none => if B ≤ n then .spent else .new
  else .bad
def Res.num (n : Nat) (lo : Int) : Res → Int
  | .bad => 0 | .same => lo | .old i => i + 2 | .spent => 0 | .new => n + 2
def Res.err : Res → Int
  | .bad => 6 | .same => 0 | .old _ => 0 | .spent => 8 | .new => 0
def Res.len (n : Nat) : Res → Nat
  | .new => n + 1 | _ => n
def Res.nodes (L : Nat → Nd) (n : Nat) (x : Nd) : Res → (Nat → Nd)
  | .new => addN L n x | _ => L
def Res.out (s : Bool) : Res → Bool
  | .spent => true | _ => s

/-- What holds of the nodes of any table. -/
structure Good (V : Int) (L : Nat → Nd) (n : Nat) : Prop where
  node : ∀ i, i < n → 0 ≤ (L i).1 ∧ (L i).1 < V ∧ 0 ≤ (L i).2.1 ∧ (L i).2.1 < i + 2 ∧ 0 ≤ (L i).2.2 ∧ (L i).2.2 < i + 2 ∧ (L i).1 < varN V L n (L i).2.1 ∧ (L i).1 < varN V L n (L i).2.2 ∧ (L i).2.1 ≠ (L i).2.2
  inj : ∀ a b, a < n → b < n → L a = L b → a = b

theorem Good.zero (V : Int) (L : Nat → Nd) : Good V L 0 := ⟨fun i h => absurd h (Nat.not_lt_zero _), fun a _ h => absurd h (Nat.not_lt_zero _)⟩
theorem fitN_iff {V : Int} {L : Nat → Nd} {n : Nat} {v lo hi : Int} : fitN V L n v lo hi = true ↔ (0 ≤ v ∧ v < V ∧ (0 ≤ lo ∧ lo < n + 2) ∧ (0 ≤ hi ∧ hi < n + 2) ∧ v < varN V L n lo ∧ v < varN V L n hi) := by
  simp [fitN, isN]
theorem varN_add {V : Int} {L : Nat → Nd} {n : Nat} {x : Nd} {k : Int} (h : k < n + 2) : varN V (addN L n x) (n + 1) k = varN V L n k := by
  unfold varN
  by_cases h2 : 2 ≤ k
  · rw [if_pos ⟨h2, by omega⟩, if_pos ⟨h2, h⟩]
    unfold addN
    rw [if_neg (by omega)]
  · rw [if_neg (by omega), if_neg (by omega)]
theorem Good.add {V : Int} {L : Nat → Nd} {n : Nat} {v lo hi : Int} (g : Good V L n) (hf : fitN V L n v lo hi = true) (hne : lo ≠ hi) (hi' : idx L (v, lo, hi) n = none) : Good V (addN L n (v, lo, hi)) (n + 1) := by
  obtain ⟨a, b, ⟨c1, c2⟩, ⟨d1, d2⟩, e, f⟩ := fitN_iff.1 hf
  have hnot := idx_some.idx_none hi'
  refine ⟨fun i hin => ?_, fun x y hx hy he => ?_⟩
  · rcases Nat.lt_or_ge i n with h | h
    · obtain ⟨p1, p2, p3, p4, p5, p6, p7, p8, p9⟩ := g.node i h
      have e1 : addN L n (v, lo, hi) i = L i := by unfold addN; rw [if_neg (by omega)]
      rw [e1, varN_add (by omega), varN_add (by omega)]
      exact ⟨p1, p2, p3, p4, p5, p6, p7, p8, p9⟩
    · obtain rfl : i = n := by omega
      have e1 : addN L i (v, lo, hi) i = (v, lo, hi) := by unfold addN; rw [if_pos rfl]
      rw [e1, varN_add (by simpa using c2), varN_add (by simpa using d2)]
      exact ⟨a, b, c1, c2, d1, d2, e, f, hne⟩
  · unfold addN at he
    by_cases h1 : x = n <;> by_cases h2 : y = n
    · omega
    · rw [if_pos h1, if_neg h2] at he; exact absurd he.symm (hnot y (by omega))
    · rw [if_neg h1, if_pos h2] at he; exact absurd he (hnot x (by omega))
    · rw [if_neg h1, if_neg h2] at he; exact g.inj x y (by omega) (by omega) he

/-- Is a node true at these bits? (With as much fuel as its number says.) -/
def evF (L : Nat → Nd) (β : Nat → Bool) : Nat → Int → Bool
  | 0, k => decide (k = 1)
  | f + 1, k => if 2 ≤ k then evF L β f (if β (L (k - 2).toNat).1.toNat then (L (k - 2).toNat).2.2 else (L (k - 2).toNat).2.1) else decide (k = 1)
def ev (L : Nat → Nd) (β : Nat → Bool) (k : Int) : Bool := evF L β k.toNat k

theorem evF_more {V : Int} {L : Nat → Nd} {n : Nat} (g : Good V L n) (β : Nat → Bool) : ∀ (f : Nat) (k : Int), 0 ≤ k → k < n + 2 → k ≤ f → evF L β f k = evF L β k.toNat k := by
  intro f
  induction f using Nat.strongRecOn with
  | _ f ih =>
    intro k h0 h1 h2
    by_cases hk : 2 ≤ k
    · obtain ⟨m, hm⟩ : ∃ m : Nat, k = m + 2 := ⟨(k - 2).toNat, by omega⟩
      subst hm
      obtain ⟨f', rfl⟩ : ∃ f', f = f' + 1 := ⟨f - 1, by omega⟩
      have e : ((m : Int) + 2).toNat = m + 1 + 1 := by omega
      have e2 : ((m : Int) + 2 - 2).toNat = m := by omega
      rw [e, evF, evF, if_pos hk, if_pos hk, e2]
      obtain ⟨p1, p2, p3, p4, p5, p6, _⟩ := g.node m (by omega)
      have key : ∀ c : Int, 0 ≤ c → c < m + 2 → evF L β f' c = evF L β (m + 1) c := fun c hc0 hc1 => by
        rw [ih f' (by omega) c hc0 (by omega) (by omega)]
        rcases Nat.lt_or_ge (m + 1) (f' + 1) with h | h
        · rw [ih (m + 1) h c hc0 (by omega) (by omega)]
        · obtain rfl : f' = m + 1 := by omega
          rw [ih (m + 1) (by omega) c hc0 (by omega) (by omega)]
      split
      · exact key _ p5 p6
      · exact key _ p3 p4
    · have hs : ∀ f, evF L β f k = decide (k = 1) := fun f => by
        cases f with
        | zero => rfl
        | succ f => rw [evF, if_neg hk]
      rw [hs, hs]

theorem ev_low (L : Nat → Nd) (β : Nat → Bool) (k : Int) (h : k < 2) : ev L β k = decide (k = 1) := by
  unfold ev
  cases k.toNat with
  | zero => rfl
  | succ f => rw [evF, if_neg (by omega)]
theorem ev_node {V : Int} {L : Nat → Nd} {n : Nat} (g : Good V L n) (β : Nat → Bool) (m : Nat) (h : m < n) : ev L β ((m : Int) + 2) = if β (L m).1.toNat then ev L β (L m).2.2 else ev L β (L m).2.1 := by
  obtain ⟨p1, p2, p3, p4, p5, p6, _⟩ := g.node m h
  have e : ((m : Int) + 2).toNat = (m + 1) + 1 := by omega
  have e2 : ((m : Int) + 2 - 2).toNat = m := by omega
  unfold ev
  rw [e, evF, if_pos (by omega), e2]
  split
  · rw [evF_more g β (m + 1) _ p5 (by omega) (by omega)]
  · rw [evF_more g β (m + 1) _ p3 (by omega) (by omega)]

theorem ev_congr {V : Int} {L L' : Nat → Nd} {n : Nat} (g : Good V L n) (g' : Good V L' n) (he : ∀ i, i < n → L i = L' i) (β : Nat → Bool) : ∀ k : Int, k < n + 2 → ev L β k = ev L' β k := by
  have key : ∀ (f : Nat) (k : Int), k < f → k < n + 2 → ev L β k = ev L' β k := by
    intro f
    induction f with
    | zero => intro k h0 _; rw [ev_low L β k (by omega), ev_low L' β k (by omega)]
    | succ f ih =>
      intro k hk hn
      by_cases h2 : 2 ≤ k
      · obtain ⟨m, rfl⟩ : ∃ m : Nat, k = m + 2 := ⟨(k - 2).toNat, by omega⟩
        have hm : m < n := by omega
        obtain ⟨p1, p2, p3, p4, p5, p6, _⟩ := g.node m hm
        rw [ev_node g β m hm, ev_node g' β m hm, ← he m hm, ih _ (by omega) (by omega), ih _ (by omega) (by omega)]
      · rw [ev_low L β k (by omega), ev_low L' β k (by omega)]
  intro k hk
  exact key (n + 2) k (by omega) hk

/-- A node does not hang on a variable before its own. -/
theorem ev_agree {V : Int} {L : Nat → Nd} {n : Nat} (g : Good V L n) {b1 b2 : Nat → Bool} {v : Int} (hb : ∀ x : Nat, v < x → b1 x = b2 x) : ∀ (f : Nat) (k : Int), k < f → k < n + 2 → v < varN V L n k → ev L b1 k = ev L b2 k := by
  intro f
  induction f with
  | zero => intro k h0 _ _; rw [ev_low L b1 k (by omega), ev_low L b2 k (by omega)]
  | succ f ih =>
    intro k hk hn hv
    by_cases h2 : 2 ≤ k
    · obtain ⟨m, rfl⟩ : ∃ m : Nat, k = m + 2 := ⟨(k - 2).toNat, by omega⟩
      have hm : m < n := by omega
      obtain ⟨p1, p2, p3, p4, p5, p6, p7, p8, _⟩ := g.node m hm
      have ev1 : varN V L n ((m : Int) + 2) = (L m).1 := by
        unfold varN; rw [if_pos ⟨h2, hn⟩]
        rw [show ((m : Int) + 2 - 2).toNat = m by omega]
      rw [ev1] at hv
      rw [ev_node g b1 m hm, ev_node g b2 m hm, hb _ (by omega), ih _ (by omega) (by omega) (by omega), ih _ (by omega) (by omega) (by omega)]
    · rw [ev_low L b1 k (by omega), ev_low L b2 k (by omega)]

def setV (β : Nat → Bool) (v : Nat) (x : Bool) : Nat → Bool := fun i => if i = v then x else β i

theorem var_node {V : Int} {L : Nat → Nd} {n m : Nat} (h : m < n) : varN V L n ((m : Int) + 2) = (L m).1 := by
  unfold varN
  rw [if_pos ⟨by omega, by omega⟩, show ((m : Int) + 2 - 2).toNat = m by omega]
theorem var_le {V : Int} {L : Nat → Nd} {n : Nat} (g : Good V L n) (k : Int) : varN V L n k ≤ V := by
  unfold varN
  split
  · have := (g.node (k - 2).toNat (by omega)).2.1; omega
  · omega

/-- What a node says with its variable so. -/
theorem ev_set {V : Int} {L : Nat → Nd} {n m : Nat} (g : Good V L n) (h : m < n) (β : Nat → Bool) (x : Bool) :
    ev L (setV β (L m).1.toNat x) ((m : Int) + 2) = if x then ev L β (L m).2.2 else ev L β (L m).2.1 := by
  obtain ⟨p1, p2, p3, p4, p5, p6, p7, p8, _⟩ := g.node m h
  have hb : ∀ i : Nat, (L m).1 < (i : Int) → setV β (L m).1.toNat x i = β i := fun i hi => by unfold setV; rw [if_neg (by omega)]
  rw [ev_node g _ m h, ev_agree g hb (n + 2) _ (by omega) (by omega) p8, ev_agree g hb (n + 2) _ (by omega) (by omega) p7]
  simp [setV]

/-- EACH ONCE: two nodes that are true at the same bits are one. -/
theorem canon {V : Int} {L : Nat → Nd} {n : Nat} (g : Good V L n) : ∀ (f : Nat) (a b : Int), 0 ≤ a → 0 ≤ b → a < f → b < f → a < n + 2 → b < n + 2 → (∀ β, ev L β a = ev L β b) → a = b := by
  intro f
  induction f with
  | zero => intro a b h1 _ h2; omega
  | succ f ih =>
    have oneside : ∀ a b : Int, 0 ≤ a → 0 ≤ b → a < f + 1 → a < n + 2 → b < n + 2 → varN V L n a < varN V L n b → (∀ β, ev L β a = ev L β b) → False := by
      intro a b ha hb haf han hbn hv he
      have h2 : 2 ≤ a := by
        rcases Int.lt_or_le a 2 with h | h
        · have e1 : varN V L n a = V := by unfold varN; rw [if_neg (by omega)]
          have := var_le g b
          omega
        · exact h
      obtain ⟨m, rfl⟩ : ∃ m : Nat, a = m + 2 := ⟨(a - 2).toNat, by omega⟩
      have hm : m < n := by omega
      obtain ⟨p1, p2, p3, p4, p5, p6, p7, p8, p9⟩ := g.node m hm
      rw [var_node hm] at hv
      refine p9 (ih _ _ p3 p5 (by omega) (by omega) (by omega) (by omega) fun β => ?_)
      have hb' : ∀ x, ev L (setV β (L m).1.toNat x) b = ev L β b := fun x =>
        ev_agree g (v := (L m).1) (fun i hi => by unfold setV; rw [if_neg (by omega)]) (n + 2) b (by omega) hbn hv
      have h1 := he (setV β (L m).1.toNat true)
      have h0 := he (setV β (L m).1.toNat false)
      rw [ev_set g hm, hb'] at h1 h0
      simp only [if_true] at h1
      simp only [Bool.false_eq_true, if_false] at h0
      rw [h0, h1]
    intro a b ha hb haf hbf han hbn he
    rcases Int.lt_trichotomy (varN V L n a) (varN V L n b) with h | h | h
    · exact (oneside a b ha hb (by omega) han hbn h he).elim
    · by_cases h2 : 2 ≤ a
      · obtain ⟨m, rfl⟩ : ∃ m : Nat, a = m + 2 := ⟨(a - 2).toNat, by omega⟩
        have hm : m < n := by omega
        obtain ⟨p1, p2, p3, p4, p5, p6, p7, p8, p9⟩ := g.node m hm
        have h2b : 2 ≤ b := by
          rcases Int.lt_or_le b 2 with h' | h'
          · have e1 : varN V L n b = V := by unfold varN; rw [if_neg (by omega)]
            rw [var_node hm] at h; omega
          · exact h'
        obtain ⟨m', rfl⟩ : ∃ m' : Nat, b = m' + 2 := ⟨(b - 2).toNat, by omega⟩
        have hm' : m' < n := by omega
        obtain ⟨q1, q2, q3, q4, q5, q6, q7, q8, q9⟩ := g.node m' hm'
        rw [var_node hm, var_node hm'] at h
        have e1 : (L m).2.1 = (L m').2.1 := ih _ _ p3 q3 (by omega) (by omega) (by omega) (by omega) fun β => by
          have := he (setV β (L m).1.toNat false)
          rw [ev_set g hm] at this
          rw [h, ev_set g hm'] at this
          simpa using this
        have e2 : (L m).2.2 = (L m').2.2 := ih _ _ p5 q5 (by omega) (by omega) (by omega) (by omega) fun β => by
          have := he (setV β (L m).1.toNat true)
          rw [ev_set g hm] at this
          rw [h, ev_set g hm'] at this
          simpa using this
        have : m = m' := g.inj m m' hm hm' (Prod.ext h (Prod.ext e1 e2))
        omega
      · have h2b : b < 2 := by
          rcases Int.lt_or_le b 2 with h' | h'
          · exact h'
          · obtain ⟨m', rfl⟩ : ∃ m' : Nat, b = m' + 2 := ⟨(b - 2).toNat, by omega⟩
            have hm' : m' < n := by omega
            have e1 : varN V L n a = V := by unfold varN; rw [if_neg (by omega)]
            have := (g.node m' hm').2.1
            rw [var_node hm'] at h; omega
        have := he (fun _ => false)
        rw [ev_low L _ a (by omega), ev_low L _ b h2b] at this
        have : (a = 1) ↔ (b = 1) := by simpa using this
        omega
    · exact (oneside b a hb ha (by omega) hbn han h (fun β => (he β).symm)).elim

/-- A node hangs on the variables before V alone. -/
theorem ev_below {V : Int} {L : Nat → Nd} {n : Nat} (g : Good V L n) {b1 b2 : Nat → Bool} (hb : ∀ x : Nat, x < V → b1 x = b2 x) : ∀ (f : Nat) (k : Int), k < f → k < n + 2 → ev L b1 k = ev L b2 k := by
  intro f
  induction f with
  | zero => intro k h0 _; rw [ev_low L b1 k (by omega), ev_low L b2 k (by omega)]
  | succ f ih =>
    intro k hk hn
    by_cases h2 : 2 ≤ k
    · obtain ⟨m, rfl⟩ : ∃ m : Nat, k = m + 2 := ⟨(k - 2).toNat, by omega⟩
      have hm : m < n := by omega
      obtain ⟨p1, p2, p3, p4, p5, p6, p7, p8, _⟩ := g.node m hm
      rw [ev_node g b1 m hm, ev_node g b2 m hm, hb _ (by omega), ih _ (by omega) (by omega), ih _ (by omega) (by omega)]
    · rw [ev_low L b1 k (by omega), ev_low L b2 k (by omega)]

/-- The bits of truths. -/
def ofB (β : Nat → Bool) : Nat → Nat
  | 0 => 0
  | k + 1 => ofB β k + if β k then 2 ^ k else 0
theorem ofB_lt (β : Nat → Bool) : ∀ k, ofB β k < 2 ^ k
  | 0 => by simp [ofB]
  | k + 1 => by have := ofB_lt β k; unfold ofB; rw [Nat.pow_succ]; split <;> omega
theorem ofB_test (β : Nat → Bool) : ∀ k x, x < k → (ofB β k).testBit x = β x
  | 0, x, h => absurd h (Nat.not_lt_zero _)
  | k + 1, x, h => by
    have hlt := ofB_lt β k
    unfold ofB
    by_cases hb : β k = true
    · rw [if_pos hb, Nat.add_comm]
      rcases Nat.lt_or_ge x k with h1 | h1
      · rw [Nat.testBit_two_pow_add_gt h1]; exact ofB_test β k x h1
      · obtain rfl : x = k := by omega
        rw [Nat.testBit_two_pow_add_eq, Nat.testBit_lt_two_pow hlt, hb]; rfl
    · rw [if_neg hb, Nat.add_zero]
      rcases Nat.lt_or_ge x k with h1 | h1
      · exact ofB_test β k x h1
      · obtain rfl : x = k := by omega
        rw [Nat.testBit_lt_two_pow hlt]; simpa using hb
end Go.Proofs.Ytloidoekmicloaa.NodePlain
