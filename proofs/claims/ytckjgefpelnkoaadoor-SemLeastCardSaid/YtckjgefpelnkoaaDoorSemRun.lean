/-
  The maker's run, in plain steps: at its end just that is in what follows; and how many steps it took.
-/
import Derived.Test.YtckjgefpelnkoaaDoorSemPlain
set_option linter.unusedVariables false
set_option linter.unusedSimpArgs false
set_option linter.unnecessarySimpa false
namespace Go.Proofs.YtckjgefpelnkoaaDoor
open Go.ChangeShapes Go.WideShapes Go.ChangeAt Go.RowKit Go.Deep SetPlain
section
variable {N P K : Nat} {rs : List Rl} {s : St}
theorem St.put_good {P : Nat} (hN : N = P * K) (h : Good N P K rs s) {r : Rl} (hr : r ∈ rs) (hR : rightB P K r = true) :
    Good N P K rs (s.put N P r) ∧ Ext s (s.put N P r) ∧ (s.put N P r).steps ≤ s.steps + 2 ∧ (r.kind = 1 → (s.put N P r).In r.head.toNat r.who.toNat = true) := by
  obtain ⟨⟨hh0, hh1⟩, hcase⟩ := right_iff hR
  rw [← hN] at hh1
  unfold St.put
  by_cases hk : r.kind = 1
  · rw [if_pos hk]
    obtain ⟨g, e, t, i⟩ := St.add_good (s := s.tick) h.tick (role := r.head.toNat) (who := r.who.toNat) (.mem r hr hk)
    exact ⟨g, (Ext.tick s).trans e, by rw [t]; exact Nat.le_refl _, fun _ => i (by omega) (by omega)⟩
  · rw [if_neg hk]
    exact ⟨h.tick, Ext.tick s, by show s.steps + 1 ≤ _; omega, fun k => absurd k hk⟩
theorem St.putL_good {P : Nat} (hN : N = P * K) : ∀ (l : List Rl) (s : St), Good N P K rs s → (∀ r, r ∈ l → r ∈ rs ∧ rightB P K r = true) →
    Good N P K rs (St.putL N P l s) ∧ Ext s (St.putL N P l s) ∧ (St.putL N P l s).steps ≤ s.steps + 2 * l.length ∧ (∀ r, r ∈ l → r.kind = 1 → (St.putL N P l s).In r.head.toNat r.who.toNat = true)
  | [], s, h, _ => ⟨h, Ext.refl s, Nat.le_add_right _ _, fun r hr => (by cases hr)⟩
  | r :: l, s, h, hl => by
    obtain ⟨m1, m2⟩ := hl r (List.mem_cons_self ..)
    obtain ⟨g1, e1, t1, i1⟩ := St.put_good hN h m1 m2
    obtain ⟨g2, e2, t2, i2⟩ := St.putL_good hN l _ g1 (fun x hx => hl x (List.mem_cons_of_mem _ hx))
    refine ⟨g2, e1.trans e2, ?_, fun x hx hk => ?_⟩
    · show (St.putL N P l (s.put N P r)).steps ≤ _
      rw [List.length_cons]; omega
    · rcases List.mem_cons.1 hx with rfl | hx
      · exact e2.mono _ _ (i1 hk)
      · exact i2 x hx hk
theorem St.putL_snoc (N P : Nat) (r : Rl) : ∀ (l : List Rl) (s : St), St.putL N P (l ++ [r]) s = (St.putL N P l s).put N P r
  | [], s => rfl
  | x :: l, s => St.putL_snoc N P r l (s.put N P x)
/-- A maker on its way: p facts have been looked at. -/
structure Run (N P K : Nat) (rs : List Rl) (p : Nat) (s : St) : Prop where
  good : Good N P K rs s
  closed : Closed K rs s
  pops : p + s.q.length = s.tot
  steps : s.steps ≤ 2 * rs.length + p * (rs.length * (3 + P))
theorem Run.start {P : Nat} (hN : N = P * K) (hrs : ∀ r, r ∈ rs → rightB P K r = true) : Run N P K rs 0 (St.putL N P rs St.zero) := by
  obtain ⟨g, e, t, i⟩ := St.putL_good (rs := rs) hN rs St.zero Good.zero (fun r hr => ⟨hr, hrs r hr⟩)
  have hq : ∀ i c, (St.putL N P rs St.zero).In i c = true → (i, c) ∈ (St.putL N P rs St.zero).q := fun i c h => (e.new i c h).elim (fun x => by cases x) id
  refine ⟨g, ⟨i, fun r _ _ c h1 h2 => absurd (hq _ _ h1) h2, fun r _ _ x c h1 h2 => absurd (hq _ _ h1) h2, fun r _ _ c h1 h2 => absurd (hq _ _ h1) h2⟩, ?_, ?_⟩
  · have := e.bal
    rw [Nat.zero_add]
    have h1 : St.zero.tot = 0 := rfl
    have h2 : St.zero.q.length = 0 := rfl
    omega
  · rw [Nat.zero_mul, Nat.add_zero]
    have h1 : St.zero.steps = 0 := rfl
    omega
theorem Run.next {P : Nat} (hN : N = P * K) (hrs : ∀ r, r ∈ rs → rightB P K r = true) {In : Nat → Nat → Bool} {tot steps p : Nat} {f : Nat × Nat} {q : List (Nat × Nat)} (h : Run N P K rs p ⟨In, tot, steps, f :: q⟩) :
    Run N P K rs (p + 1) (St.look N P K (keptL N rs) ⟨In, tot, steps, q⟩ f) ∧ Ext ⟨In, tot, steps, q⟩ (St.look N P K (keptL N rs) ⟨In, tot, steps, q⟩ f) ∧ f.1 < N ∧ f.2 < P ∧ 0 < K ∧ p < P * N := by
  have hf : In f.1 f.2 = true := h.good.que f (List.mem_cons_self ..)
  obtain ⟨hf1, hf2⟩ := h.good.out _ _ hf
  have hK : 0 < K := by
    rcases Nat.eq_zero_or_pos K with h0 | h0
    · rw [h0, Nat.mul_zero] at hN; omega
    · exact h0
  have h0 : Good N P K rs ⟨In, tot, steps, q⟩ := ⟨h.good.snd, h.good.out, fun x hx => h.good.que x (List.mem_cons_of_mem _ hx), h.good.tot⟩
  obtain ⟨g, e, t, _, _⟩ := St.look_good hN hK hrs h0 hf1 hf2 hf
  have hp := h.pops
  have hl := h.good.tot_le
  have hs := h.steps
  have hb := e.bal
  simp only [List.length_cons] at hp
  refine ⟨⟨g, St.look_closed hN hK hrs h.good h.closed, ?_, ?_⟩, e, hf1, hf2, hK, ?_⟩
  · show p + 1 + _ = _
    simp only [] at hb
    omega
  · have hsm : (p + 1) * (rs.length * (3 + P)) = p * (rs.length * (3 + P)) + rs.length * (3 + P) := Nat.succ_mul _ _
    simp only [] at hs t
    omega
  · simp only [] at hp hl
    omega
theorem Run.done {p : Nat} (h : Run N P K rs p s) (hq : s.q = []) (i c : Nat) : s.In i c = true ↔ Der K rs i c := ⟨h.good.snd i c, fun d => h.closed.all hq d⟩
theorem steps_arith {P K n m p S : Nat} (hp : p ≤ P * (P * K)) (hnm : n ≤ m) (hS : S ≤ 2 * n + p * (n * (3 + P))) : S ≤ 4 * (P + 1) * (P + 1) * (P + 1) * (K + 1) * (K + 1) * (m + 1) := by
  obtain ⟨A, hA⟩ : ∃ A, A = P * P * P := ⟨_, rfl⟩
  have h1 : p * (n * (3 + P)) ≤ 4 * (A * K * n) := by
    rcases Nat.eq_zero_or_pos P with h0 | h0
    · subst h0
      have : p = 0 := by simpa using hp
      rw [this, Nat.zero_mul]; exact Nat.zero_le _
    · have h2 : n * (3 + P) ≤ n * (4 * P) := Nat.mul_le_mul_left _ (by omega)
      have h3 := Nat.mul_le_mul hp h2
      have h4 : P * (P * K) * (n * (4 * P)) = 4 * (A * K * n) := by rw [hA]; simp only [Nat.mul_comm, Nat.mul_left_comm, Nat.mul_assoc]
      omega
  have hX : A + 1 ≤ (P + 1) * (P + 1) * (P + 1) := by
    rw [hA]
    have : (P + 1) * (P + 1) * (P + 1) = P * P * P + 3 * (P * P) + 3 * P + 1 := by
      simp only [Nat.mul_add, Nat.add_mul, Nat.mul_one, Nat.one_mul, Nat.mul_assoc]; omega
    omega
  have hY : K + 1 ≤ (K + 1) * (K + 1) := Nat.le_mul_of_pos_left _ (by omega)
  have h5 := Nat.mul_le_mul (Nat.mul_le_mul hX hY) (show n + 1 ≤ m + 1 by omega)
  have h6 : A * K * n + n ≤ (A + 1) * (K + 1) * (n + 1) := by
    have h7 : (A + 1) * (K + 1) = A * K + A + K + 1 := by rw [Nat.add_mul, Nat.mul_add]; omega
    have h8 : (A * K + 1) * n ≤ (A * K + A + K + 1) * (n + 1) := Nat.mul_le_mul (by omega) (by omega)
    rw [Nat.add_mul, Nat.one_mul] at h8
    rw [h7]; exact h8
  have h9 : 4 * (P + 1) * (P + 1) * (P + 1) * (K + 1) * (K + 1) * (m + 1) = 4 * ((P + 1) * (P + 1) * (P + 1) * ((K + 1) * (K + 1)) * (m + 1)) := by simp only [Nat.mul_assoc]
  rw [h9]
  omega
theorem Run.bound {P p : Nat} (hN : N = P * K) (h : Run N P K rs p s) {m : Nat} (hm : rs.length ≤ m) : s.steps ≤ 4 * (P + 1) * (P + 1) * (P + 1) * (K + 1) * (K + 1) * (m + 1) := by
  have h1 := h.good.tot_le
  have h2 := h.pops
  have h3 := h.steps
  rw [hN] at h1
  exact steps_arith (by omega) hm h3
/-- Nothing in it is great. -/
structure Few (s : St) : Prop where
  steps : s.steps ≤ 10000000000000000
  tot : s.tot ≤ 1000000
  len : s.q.length ≤ 1000000
theorem Few.down {s t : St} (e : Ext s t) (h : Few t) : Few s := ⟨Nat.le_trans e.steps h.steps, Nat.le_trans e.tot h.tot, Nat.le_trans e.len h.len⟩
theorem Run.few {P p : Nat} (hN : N = P * K) (hP : P ≤ 64) (hK : K ≤ 64) (hn : rs.length ≤ 1000000) (h : Run N P K rs p s) : Few s := by
  have h1 := h.good.tot_le
  have h2 := h.pops
  have h3 := h.bound hN (Nat.le_refl _)
  have hN2 : P * N ≤ 64 * (64 * 64) := by rw [hN]; exact Nat.mul_le_mul hP (Nat.mul_le_mul hP hK)
  have h4 : 4 * (P + 1) * (P + 1) * (P + 1) * (K + 1) * (K + 1) * (rs.length + 1) ≤ 4 * 65 * 65 * 65 * 65 * 65 * 1000001 * 1 := by
    rw [Nat.mul_one]
    exact Nat.mul_le_mul (Nat.mul_le_mul (Nat.mul_le_mul (Nat.mul_le_mul (Nat.mul_le_mul (Nat.mul_le_mul (Nat.le_refl _) (by omega)) (by omega)) (by omega)) (by omega)) (by omega)) (by omega)
  refine ⟨?_, by omega, by omega⟩
  have h5 : 4 * 65 * 65 * 65 * 65 * 65 * 1000001 * 1 = 4641167141162500 := by decide
  omega
theorem St.add_ext (s : St) (role who : Nat) : Ext s (s.add N P role who) := by
  unfold St.add
  cases hb : addB N P s.In role who with
  | true =>
    rw [if_pos rfl]
    have ht : addTot N P s.In role who s.tot = s.tot + 1 := by unfold addTot; rw [if_pos hb]
    have hin : ∀ i c, addIn N P s.In role who i c = true ↔ s.In i c = true ∨ (i, c) = (role, who) := fun i c => by
      unfold addIn
      rw [if_pos hb]
      show (if i = role then upd (s.In i) who else s.In i) c = true ↔ _
      by_cases hi : i = role
      · subst hi
        rw [if_pos rfl]
        show (decide (c = who) || s.In i c) = true ↔ _
        simp [or_comm]
      · rw [if_neg hi]; simp [hi]
    refine ⟨Nat.le_succ _, ?_, ?_, ?_, fun i c x => (hin i c).2 (.inl x), fun i c x => ?_, fun f x => List.mem_append_left _ x⟩
    · show s.tot ≤ addTot N P s.In role who s.tot; omega
    · show s.q.length ≤ (s.q ++ [(role, who)]).length; simp
    · show s.tot + (s.q ++ [(role, who)]).length = addTot N P s.In role who s.tot + s.q.length
      rw [ht]; simp; omega
    · rcases (hin i c).1 x with y | y
      · exact .inl y
      · rw [y]; exact .inr (List.mem_append_right _ (List.mem_singleton.2 rfl))
  | false => rw [if_neg (by simp)]; exact Ext.tick s
theorem St.addAll_ext {dst : Nat} : ∀ (l : List Nat) (s : St), Ext s (St.addAll N P dst l s)
  | [], s => Ext.refl s
  | x :: l, s => (St.add_ext s dst x).trans (St.addAll_ext l _)
theorem St.addAll_append {dst : Nat} (m : List Nat) : ∀ (l : List Nat) (s : St), St.addAll N P dst (l ++ m) s = St.addAll N P dst m (St.addAll N P dst l s)
  | [], s => rfl
  | x :: l, s => St.addAll_append m l _
theorem St.addAll_take {dst : Nat} (l : List Nat) (s : St) {j x : Nat} (hx : l[j]? = some x) :
    St.addAll N P dst (l.take (j + 1)) s = (St.addAll N P dst (l.take j) s).add N P dst x ∧ Ext ((St.addAll N P dst (l.take j) s).add N P dst x) (St.addAll N P dst l s) := by
  have h1 : l.take (j + 1) = l.take j ++ [x] := by rw [List.take_add_one, hx]; rfl
  have h2 : St.addAll N P dst (l.take (j + 1)) s = (St.addAll N P dst (l.take j) s).add N P dst x := by rw [h1, St.addAll_append]; rfl
  refine ⟨h2, ?_⟩
  rw [← h2]
  have h3 : St.addAll N P dst l s = St.addAll N P dst (l.drop (j + 1)) (St.addAll N P dst (l.take (j + 1)) s) := by rw [← St.addAll_append, List.take_append_drop]
  rw [h3]
  exact St.addAll_ext _ _
theorem St.all_ext (s : St) (src dst : Nat) : Ext s (s.all N P src dst) := St.addAll_ext _ _
theorem St.by1_ext {f : Nat × Nat} (s : St) (r : Rl) : Ext s (s.by1 N P K f r) := by
  unfold St.by1
  split
  · exact (Ext.tick s).trans (St.add_ext _ _ _)
  split
  · exact (Ext.tick s).trans (St.all_ext _ _ _)
  split
  · split
    · exact (Ext.tick s).trans (St.add_ext _ _ _)
    · exact Ext.tick s
  · exact Ext.tick s
theorem St.via1_ext {f : Nat × Nat} (s : St) (r : Rl) : Ext s (s.via1 N P K f r) := by
  unfold St.via1
  split
  · exact (Ext.tick s).trans (St.add_ext _ _ _)
  · exact Ext.tick s
theorem St.byL_ext {f : Nat × Nat} : ∀ (l : List Rl) (s : St), Ext s (St.byL N P K f l s)
  | [], s => Ext.refl s
  | r :: l, s => (St.by1_ext s r).trans (St.byL_ext l _)
theorem St.viaL_ext {f : Nat × Nat} : ∀ (l : List Rl) (s : St), Ext s (St.viaL N P K f l s)
  | [], s => Ext.refl s
  | r :: l, s => (St.via1_ext s r).trans (St.viaL_ext l _)
theorem St.byL_append {f : Nat × Nat} (m : List Rl) : ∀ (l : List Rl) (s : St), St.byL N P K f (l ++ m) s = St.byL N P K f m (St.byL N P K f l s)
  | [], s => rfl
  | x :: l, s => St.byL_append m l _
theorem St.viaL_append {f : Nat × Nat} (m : List Rl) : ∀ (l : List Rl) (s : St), St.viaL N P K f (l ++ m) s = St.viaL N P K f m (St.viaL N P K f l s)
  | [], s => rfl
  | x :: l, s => St.viaL_append m l _
theorem St.byL_take {f : Nat × Nat} (l : List Rl) (s : St) {j : Nat} {x : Rl} (hx : l[j]? = some x) :
    St.byL N P K f (l.take (j + 1)) s = (St.byL N P K f (l.take j) s).by1 N P K f x ∧ Ext ((St.byL N P K f (l.take j) s).by1 N P K f x) (St.byL N P K f l s) := by
  have h1 : l.take (j + 1) = l.take j ++ [x] := by rw [List.take_add_one, hx]; rfl
  have h2 : St.byL N P K f (l.take (j + 1)) s = (St.byL N P K f (l.take j) s).by1 N P K f x := by rw [h1, St.byL_append]; rfl
  refine ⟨h2, ?_⟩
  rw [← h2]
  have h3 : St.byL N P K f l s = St.byL N P K f (l.drop (j + 1)) (St.byL N P K f (l.take (j + 1)) s) := by rw [← St.byL_append, List.take_append_drop]
  rw [h3]
  exact St.byL_ext _ _
theorem St.viaL_take {f : Nat × Nat} (l : List Rl) (s : St) {j : Nat} {x : Rl} (hx : l[j]? = some x) :
    St.viaL N P K f (l.take (j + 1)) s = (St.viaL N P K f (l.take j) s).via1 N P K f x ∧ Ext ((St.viaL N P K f (l.take j) s).via1 N P K f x) (St.viaL N P K f l s) := by
  have h1 : l.take (j + 1) = l.take j ++ [x] := by rw [List.take_add_one, hx]; rfl
  have h2 : St.viaL N P K f (l.take (j + 1)) s = (St.viaL N P K f (l.take j) s).via1 N P K f x := by rw [h1, St.viaL_append]; rfl
  refine ⟨h2, ?_⟩
  rw [← h2]
  have h3 : St.viaL N P K f l s = St.viaL N P K f (l.drop (j + 1)) (St.viaL N P K f (l.take (j + 1)) s) := by rw [← St.viaL_append, List.take_append_drop]
  rw [h3]
  exact St.viaL_ext _ _
end
end Go.Proofs.YtckjgefpelnkoaaDoor
