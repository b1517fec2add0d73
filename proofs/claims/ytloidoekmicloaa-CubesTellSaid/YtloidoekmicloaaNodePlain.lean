/-
  Open addressing: the plain laws of the places of a table of nodes. No program in sight.
-/
set_option linter.unusedVariables false
set_option linter.unusedSimpArgs false
set_option linter.unnecessarySimpa false
namespace Go.Proofs.Ytloidoekmicloaa.NodePlain

/-- A node: its variable, and where it goes on. -/
abbrev Nd := Int × Int × Int

theorem nodup_lt : ∀ (n : Nat) (l : List Nat), l.Nodup → (∀ x ∈ l, x < n) → l.length ≤ n
  | 0, l, _, h => by
    cases l with
    | nil => simp
    | cons a l => exact absurd (h a List.mem_cons_self) (Nat.not_lt_zero _)
  | n + 1, l, hn, h => by
    have h1 := nodup_lt n (l.erase n) (hn.erase _) (fun x hx => by
      have hx' := List.mem_of_mem_erase hx
      have := h x hx'
      have hne : x ≠ n := fun e => by subst e; exact (List.Nodup.not_mem_erase hn) hx
      omega)
    by_cases hm : n ∈ l
    · rw [List.length_erase_of_mem hm] at h1; omega
    · rw [List.erase_of_not_mem hm] at h1; omega

/-- The first m nodes are in their places. h: where each begins. -/
structure Placed (h : Nd → Nat) (L : Nat → Nd) (m M : Nat) (P : Nat → Nat) : Prop where
  lt : m < M
  val : ∀ j, j < M → P j = 0 ∨ ∃ i, i < m ∧ P j = i + 2
  inj : ∀ j j', j < M → j' < M → P j = P j' → P j ≠ 0 → j = j'
  found : ∀ i, i < m → ∃ d, P ((h (L i) + d) % M) = i + 2 ∧ ∀ e, e < d → P ((h (L i) + e) % M) ≠ 0

theorem Placed.zero {h : Nd → Nat} {L : Nat → Nd} {m M : Nat} {P : Nat → Nat} (hp : Placed h L m M P) : ∃ j, j < M ∧ P j = 0 := by
  apply Classical.byContradiction
  intro hno
  have hall : ∀ j, j < M → ∃ i, i < m ∧ P j = i + 2 := fun j hj => by
    rcases hp.val j hj with h0 | h0
    · exact absurd ⟨j, hj, h0⟩ hno
    · exact h0
  have := nodup_lt m ((List.range M).map fun j => P j - 2) (by
    rw [List.nodup_iff_pairwise_ne, List.pairwise_map]
    refine List.Pairwise.imp_of_mem (R := fun a b => a ≠ b) (fun {a b} ha hb hab e => ?_) List.nodup_range
    obtain ⟨i, _, h1⟩ := hall a (List.mem_range.1 ha)
    obtain ⟨i', _, h2⟩ := hall b (List.mem_range.1 hb)
    exact hab (hp.inj a b (List.mem_range.1 ha) (List.mem_range.1 hb) (by omega) (by omega))) (fun x hx => by
    obtain ⟨j, hj, rfl⟩ := List.mem_map.1 hx
    obtain ⟨i, h1, h2⟩ := hall j (List.mem_range.1 hj)
    omega)
  simp at this
  have := hp.lt
  omega

/-- From anywhere a place where nothing is, is come to. -/
theorem Placed.reach {h : Nd → Nat} {L : Nat → Nd} {m M : Nat} {P : Nat → Nat} (hp : Placed h L m M P) (s : Nat) : ∃ z, z < M ∧ P ((s + z) % M) = 0 := by
  obtain ⟨j, hj, h0⟩ := hp.zero
  have hM : 0 < M := by omega
  have hs := Nat.mod_lt s hM
  refine ⟨(j + M - s % M) % M, Nat.mod_lt _ hM, ?_⟩
  have : (s + (j + M - s % M) % M) % M = j := by
    rw [Nat.add_mod_mod, show s + (j + M - s % M) = j + M + (s - s % M) by have := Nat.mod_le s M; omega]
    rw [show s - s % M = M * (s / M) by have := Nat.div_add_mod s M; omega]
    rw [Nat.add_mul_mod_self_left, Nat.add_mod_right, Nat.mod_eq_of_lt hj]
  rw [this, h0]

/-- What the search has come to: the place of x, or the one where it would be. -/
def Found (h : Nd → Nat) (L : Nat → Nd) (m M : Nat) (P : Nat → Nat) (x : Nd) (at_ : Nat) : Prop :=
  at_ < M ∧ ((P at_ = 0 ∧ (∀ i, i < m → L i ≠ x) ∧ ∃ d, at_ = (h x + d) % M ∧ ∀ e, e < d → P ((h x + e) % M) ≠ 0) ∨ (∃ i, i < m ∧ P at_ = i + 2 ∧ L i = x))

theorem Found.congr {h : Nd → Nat} {L L' : Nat → Nd} {m M : Nat} {P : Nat → Nat} {x : Nd} {a : Nat} (f : Found h L m M P x a) (he : ∀ i, i < m → L i = L' i) : Found h L' m M P x a := by
  refine ⟨f.1, ?_⟩
  rcases f.2 with ⟨h1, h2, h3⟩ | ⟨i, h1, h2, h3⟩
  · exact .inl ⟨h1, fun i hi => by rw [← he i hi]; exact h2 i hi, h3⟩
  · exact .inr ⟨i, h1, h2, by rw [← he i h1]; exact h3⟩

/-- How far the search has gone. -/
def Gone (h : Nd → Nat) (L : Nat → Nd) (M : Nat) (P : Nat → Nat) (x : Nd) (z d : Nat) : Prop :=
  z < M ∧ P ((h x + z) % M) = 0 ∧ d ≤ z ∧ ∀ e, e < d → P ((h x + e) % M) ≠ 0 ∧ L (P ((h x + e) % M) - 2) ≠ x

theorem Gone.start {h : Nd → Nat} {L : Nat → Nd} {m M : Nat} {P : Nat → Nat} (hp : Placed h L m M P) (x : Nd) : ∃ z, Gone h L M P x z 0 := by
  obtain ⟨z, h1, h2⟩ := hp.reach (h x)
  exact ⟨z, h1, h2, Nat.zero_le _, fun e he => absurd he (Nat.not_lt_zero _)⟩
theorem Gone.step {h : Nd → Nat} {L : Nat → Nd} {M : Nat} {P : Nat → Nat} {x : Nd} {z d : Nat} (g : Gone h L M P x z d) (h1 : P ((h x + d) % M) ≠ 0) (h2 : L (P ((h x + d) % M) - 2) ≠ x) : Gone h L M P x z (d + 1) ∧ d < z := by
  obtain ⟨a, b, c, e⟩ := g
  have hne : d ≠ z := fun e => by subst e; exact h1 b
  refine ⟨⟨a, b, by omega, fun k hk => ?_⟩, by omega⟩
  rcases Nat.lt_or_ge k d with h | h
  · exact e k h
  · obtain rfl : k = d := by omega
    exact ⟨h1, h2⟩
theorem Gone.none {h : Nd → Nat} {L : Nat → Nd} {m M : Nat} {P : Nat → Nat} (hp : Placed h L m M P) {x : Nd} {z d : Nat} (g : Gone h L M P x z d) (h0 : P ((h x + d) % M) = 0) : Found h L m M P x ((h x + d) % M) := by
  have hM : 0 < M := by have := hp.lt; omega
  refine ⟨Nat.mod_lt _ hM, .inl ⟨h0, fun i hi hx => ?_, d, rfl, fun e he => (g.2.2.2 e he).1⟩⟩
  obtain ⟨d', h1, h2⟩ := hp.found i hi
  rw [hx] at h1 h2
  rcases Nat.lt_trichotomy d' d with h | h | h
  · have := (g.2.2.2 d' h).2
    rw [h1] at this
    exact this (by simpa using hx)
  · subst h; omega
  · exact h2 d h h0
theorem Gone.some {h : Nd → Nat} {L : Nat → Nd} {m M : Nat} {P : Nat → Nat} (hp : Placed h L m M P) {x : Nd} {d : Nat} (h0 : P ((h x + d) % M) ≠ 0) (h1 : L (P ((h x + d) % M) - 2) = x) : Found h L m M P x ((h x + d) % M) := by
  have hM : 0 < M := by have := hp.lt; omega
  refine ⟨Nat.mod_lt _ hM, .inr ?_⟩
  rcases hp.val _ (Nat.mod_lt (h x + d) hM) with h2 | ⟨i, hi, h2⟩
  · exact absurd h2 h0
  · exact ⟨i, hi, h2, by rw [h2] at h1; simpa using h1⟩

/-- What is written at a place. -/
def setP (P : Nat → Nat) (at_ v : Nat) : Nat → Nat := fun j => if j = at_ then v else P j

theorem Placed.insert {h : Nd → Nat} {L : Nat → Nd} {m M : Nat} {P : Nat → Nat} (hp : Placed h L m M P) {at_ : Nat} (hf : Found h L m M P (L m) at_) (h0 : P at_ = 0) (hlt : m + 1 < M) : Placed h L (m + 1) M (setP P at_ (m + 2)) := by
  obtain ⟨hat, hf⟩ := hf
  rcases hf with ⟨_, hnot, d, hd, hpath⟩ | ⟨i, _, h1, _⟩
  · refine ⟨hlt, fun j hj => ?_, fun j j' hj hj' e hne => ?_, fun i hi => ?_⟩
    · by_cases hja : j = at_
      · exact .inr ⟨m, by omega, by simp [setP, hja]⟩
      · rcases hp.val j hj with h1 | ⟨i, h1, h2⟩
        · exact .inl (by simp [setP, hja, h1])
        · exact .inr ⟨i, by omega, by simp [setP, hja, h2]⟩
    · have big : ∀ j, j < M → P j ≠ m + 2 := fun j hj => by
        rcases hp.val j hj with h1 | ⟨i, h1, h2⟩ <;> omega
      unfold setP at e hne
      by_cases hja : j = at_ <;> by_cases hja' : j' = at_
      · omega
      · rw [if_pos hja, if_neg hja'] at e; exact absurd e.symm (big j' hj')
      · rw [if_neg hja, if_pos hja'] at e; exact absurd e (big j hj)
      · rw [if_neg hja, if_neg hja'] at e
        rw [if_neg hja] at hne
        exact hp.inj j j' hj hj' e hne
    · rcases Nat.lt_or_ge i m with hi' | hi'
      · obtain ⟨d', h1, h2⟩ := hp.found i hi'
        have off : ∀ j, P j ≠ 0 → j ≠ at_ := fun j hj e => by rw [e] at hj; exact hj h0
        refine ⟨d', by rw [setP, if_neg (off _ (by omega)), h1], fun e he => ?_⟩
        rw [setP, if_neg (off _ (h2 e he))]
        exact h2 e he
      · obtain rfl : i = m := by omega
        refine ⟨d, by rw [← hd]; simp [setP], fun e he => ?_⟩
        unfold setP
        split
        · omega
        · exact hpath e he
  · omega

theorem Placed.empty (h : Nd → Nat) (L : Nat → Nd) (M : Nat) (hM : 0 < M) : Placed h L 0 M (fun _ => 0) :=
  ⟨hM, fun _ _ => .inl rfl, fun _ _ _ _ _ hne => absurd rfl hne, fun _ hi => absurd hi (Nat.not_lt_zero _)⟩
theorem Placed.congr {h : Nd → Nat} {L L' : Nat → Nd} {m M : Nat} {P : Nat → Nat} (hp : Placed h L m M P) (he : ∀ i, i < m → L i = L' i) : Placed h L' m M P :=
  ⟨hp.lt, hp.val, hp.inj, fun i hi => by rw [← he i hi]; exact hp.found i hi⟩

/-- Where a node is, among the first n. -/
def idx (L : Nat → Nd) (x : Nd) : Nat → Option Nat
  | 0 => none
  | n + 1 => match idx L x n with | some i => some i | none => if L n = x then some n else none
theorem idx_some {L : Nat → Nd} {x : Nd} : ∀ {n i}, idx L x n = some i → i < n ∧ L i = x ∧ ∀ j, j < i → L j ≠ x
  | 0, i, h => by cases h
  | n + 1, i, h => by
    unfold idx at h
    split at h
    · rename_i k hk
      cases h
      obtain ⟨a, b, c⟩ := idx_some hk
      exact ⟨by omega, b, c⟩
    · rename_i hk
      split at h
      · cases h
        rename_i hx
        refine ⟨by omega, hx, fun j hj e => ?_⟩
        exact idx_none hk j hj e
      · cases h
where
  idx_none {L : Nat → Nd} {x : Nd} : ∀ {n}, idx L x n = none → ∀ j, j < n → L j ≠ x
  | 0, _, j, hj => absurd hj (Nat.not_lt_zero _)
  | n + 1, h, j, hj => by
    unfold idx at h
    split at h
    · cases h
    · rename_i hk
      split at h
      · cases h
      · rename_i hx
        rcases Nat.lt_or_ge j n with h1 | h1
        · exact idx_none hk j h1
        · obtain rfl : j = n := by omega
          exact hx
theorem idx_none' {L : Nat → Nd} {x : Nd} {n : Nat} (h : ∀ i, i < n → L i ≠ x) : idx L x n = none := by
  cases hi : idx L x n with
  | none => rfl
  | some i => obtain ⟨a, b, _⟩ := idx_some hi; exact absurd b (h i a)
theorem idx_eq {L : Nat → Nd} {x : Nd} {n i : Nat} (hd : ∀ a b, a < n → b < n → L a = L b → a = b) (hi : i < n) (hx : L i = x) : idx L x n = some i := by
  cases h : idx L x n with
  | none => exact absurd hx (idx_some.idx_none h i hi)
  | some j => obtain ⟨a, b, _⟩ := idx_some h; rw [hd j i a hi (b.trans hx.symm)]
end Go.Proofs.Ytloidoekmicloaa.NodePlain
