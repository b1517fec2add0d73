/-
  Which steps may be put, and what follows of those that were. No program in sight.
-/
import Derived.Test.YtahnedkdodjomaaProofMay
import Derived.Test.YtahnedkdodjomaaRefPlain
set_option linter.unusedVariables false
set_option linter.unusedSimpArgs false
set_option linter.unnecessarySimpa false
namespace Go.Proofs.Ytahnedkdodjomaa
open Go.ChangeShapes Go.WideShapes Go.ChangeAt Go.RowKit Go.Deep SetPlain
def inL (l : List Sp) : Nat → Nat → Bool := fun i c => (atF l (i : Int) (c : Int)).isSome
/-- What a step of a rule, in just this way, stands on. -/
def premM (P K : Nat) (r : Rl) (In : Nat → Nat → Bool) (c m : Nat) : Bool :=
  if r.kind = 1 then decide (r.who = (c : Int)) else if r.kind = 2 then In r.a.toNat c
  else if r.kind = 4 then In r.a.toNat c && In r.b.toNat c else In r.a.toNat m && In (m * K + r.via.toNat) c
section
variable {P K : Nat} {r : Rl} {rs : List Rl} {l : List Sp} {i c m : Nat} {s : Sp}
theorem ruleAt_in (hr : rs[i]? = some r) : ruleAt P K rs i = (r, rightB P K r) := by
  have hi : i < rs.length := by
    rcases Nat.lt_or_ge i rs.length with h | h
    · exact h
    · rw [List.getElem?_eq_none h] at hr; cases hr
  unfold ruleAt
  rw [if_pos ⟨by omega, by omega⟩, show ((i : Int)).toNat = i from rfl, hr]
  rfl
theorem needsL_at (hr : rs[i]? = some r) (hR : rightB P K r = true) (hc : c < P) (h3 : r.kind ≠ 3 → m = 0) :
    needsL P K rs ⟨i, r.head, c, m⟩ = if r.kind = 1 then ([], decide (r.who = (c : Int))) else if r.kind = 2 then ([(r.a, (c : Int))], true) else if r.kind = 4 then ([(r.a, (c : Int)), (r.b, (c : Int))], true)
      else ([(r.a, (m : Int)), (IntKind.i64.wrap (IntKind.i64.wrap ((m : Int) * K) + r.via), (c : Int))], decide (0 ≤ (m : Int) ∧ (m : Int) < P)) := by
  unfold needsL
  simp only [ruleAt_in hr, hR]
  unfold needsR
  rw [if_neg]
  rintro (h | h | h | h | h)
  · cases h
  · exact h rfl
  · simp only [] at h; omega
  · simp only [] at h; omega
  · have := h3 h.1; simp only [] at h; omega
theorem link_role (hP : P ≤ 64) (hK : K ≤ 64) (hm : m < P) (h0 : 0 ≤ r.via) (h1 : r.via < K) : IntKind.i64.wrap (IntKind.i64.wrap ((m : Int) * K) + r.via) = ((m * K + r.via.toNat : Nat) : Int) := by
  have hle : m * K ≤ 64 * 64 := Nat.mul_le_mul (by omega) hK
  have e : (m : Int) * (K : Int) = ((m * K : Nat) : Int) := by simp
  have a1 : IntKind.i64.wrap ((m * K : Nat) : Int) = ((m * K : Nat) : Int) := IntWalk.i64_in _ (by omega)
  rw [e, a1, IntWalk.i64_in _ (by omega)]
  omega
theorem may_at (hP : P ≤ 64) (hK : K ≤ 64) (hr : rs[i]? = some r) (hR : rightB P K r = true) (hc : c < P) (h3 : r.kind ≠ 3 → m = 0) (h4 : r.kind = 3 → m < P) :
    mayB P K rs l ⟨i, r.head, c, m⟩ = (premM P K r (inL l) c m && !(atF l r.head c).isSome) := by
  obtain ⟨_, hcase⟩ := right_iff hR
  unfold mayB
  rw [needsL_at hr hR hc h3]
  unfold premM inL
  rcases hcase with ⟨k1, hw0, hw1⟩ | ⟨k2, a0, a1⟩ | ⟨k3, a0, a1, v0, v1⟩ | ⟨k4, a0, a1, b0, b1⟩
  · simp [k1]
  · simp [k2, Int.toNat_of_nonneg a0]
  · have hm := h4 k3
    rw [link_role hP hK hm v0 v1]
    simp [k3, Int.toNat_of_nonneg a0, hm, Int.toNat_of_nonneg v0]
  · simp [k4, Int.toNat_of_nonneg a0, Int.toNat_of_nonneg b0]
theorem may_form (h : mayB P K rs l s = true) : ∃ (i : Nat) (r : Rl) (c m : Nat), rs[i]? = some r ∧ rightB P K r = true ∧ s = ⟨i, r.head, c, m⟩ ∧ c < P ∧ (r.kind ≠ 3 → m = 0) ∧ (r.kind = 3 → m < P) := by
  unfold mayB at h
  rw [Bool.and_eq_true, Bool.and_eq_true] at h
  obtain ⟨⟨h, _⟩, _⟩ := h
  unfold needsL at h
  unfold ruleAt at h
  by_cases hi : 0 ≤ s.rule ∧ s.rule < rs.length
  · rw [if_pos hi] at h
    obtain ⟨r, hr⟩ : ∃ r, rs[s.rule.toNat]? = some r := ⟨_, List.getElem?_eq_getElem (by omega)⟩
    rw [hr] at h
    simp only [Option.getD_some] at h
    unfold needsR at h
    split at h
    · cases h
    rename_i hno
    have hR : rightB P K r = true := by
      cases hb : rightB P K r with
      | true => rfl
      | false => exact absurd (.inl hb) hno
    have e1 : r.head = s.role := Decidable.not_not.1 (fun h => hno (.inr (.inl h)))
    have e2 : ¬ s.who < 0 := fun h => hno (.inr (.inr (.inl h)))
    have e3 : ¬ (P : Int) ≤ s.who := fun h => hno (.inr (.inr (.inr (.inl h))))
    have e4 : r.kind ≠ 3 → s.mid = 0 := fun hk => Decidable.not_not.1 (fun h => hno (.inr (.inr (.inr (.inr ⟨hk, h⟩)))))
    have e5 : r.kind = 3 → 0 ≤ s.mid ∧ s.mid < P := fun hk => by
      simp [hk] at h
      exact h
    have e6 : 0 ≤ s.mid := by
      rcases Int.decEq r.kind 3 with hk | hk
      · rw [e4 hk]; exact Int.le_refl _
      · exact (e5 hk).1
    refine ⟨s.rule.toNat, r, s.who.toNat, s.mid.toNat, hr, hR, ?_, by omega, fun hk => by rw [e4 hk]; rfl, fun hk => by have := e5 hk; omega⟩
    obtain ⟨a, b, c, d⟩ := s
    simp only [] at *
    rw [Int.toNat_of_nonneg hi.1, Int.toNat_of_nonneg (by omega), Int.toNat_of_nonneg e6, e1]
  · rw [if_neg hi] at h
    rw [needsR_no (.inl rfl)] at h
    cases h
theorem prem_of (h : premM P K r (inL l) c m = true) (h4 : r.kind = 3 → m < P) (hR : rightB P K r = true) : prem P K r (inL l) c = true := by
  obtain ⟨_, hcase⟩ := right_iff hR
  unfold premM at h
  unfold prem
  rcases hcase with ⟨k1, _⟩ | ⟨k2, _⟩ | ⟨k3, _⟩ | ⟨k4, _⟩
  · simp [k1] at h ⊢; exact h.symm
  · simp [k2] at h ⊢; exact h
  · simp [k3] at h ⊢; exact (anyIn_iff _ _ _).2 ⟨m, h4 k3, h⟩
  · simp [k4] at h ⊢; exact h
theorem prem_to (h : prem P K r (inL l) c = true) (hR : rightB P K r = true) : ∃ m, (r.kind ≠ 3 → m = 0) ∧ (r.kind = 3 → m < P) ∧ premM P K r (inL l) c m = true := by
  obtain ⟨_, hcase⟩ := right_iff hR
  unfold prem at h
  unfold premM
  rcases hcase with ⟨k1, _⟩ | ⟨k2, _⟩ | ⟨k3, _⟩ | ⟨k4, _⟩
  · simp [k1] at h ⊢; exact h.symm
  · simp [k2] at h ⊢; exact h
  · simp [k3] at h ⊢
    obtain ⟨m, hm, h1⟩ := (anyIn_iff _ _ _).1 h
    exact ⟨m, hm, h1⟩
  · simp [k4] at h ⊢; exact h
theorem inL_snoc {a : Nat} (c : Nat) : inL (l ++ [⟨i, (a : Int), (c : Int), m⟩]) = setIn (inL l) a c := by
  funext i' c'
  unfold inL setIn
  rw [atF_snoc]
  cases h : atF l (i' : Int) (c' : Int) with
  | some x => simp [h]
  | none =>
    by_cases he : i' = a ∧ c' = c
    · obtain ⟨rfl, rfl⟩ := he
      simp
    · rw [if_neg (by simp only []; omega)]
      simp
      exact ⟨fun h1 h2 => he ⟨h1, h2⟩, h⟩
/-- Steps put, one behind the other. -/
inductive Grow (P K : Nat) (rs : List Rl) : List Sp → List Sp → Prop
  | refl (l : List Sp) : Grow P K rs l l
  | step {l l1 : List Sp} (s : Sp) : Grow P K rs l l1 → mayB P K rs l1 s = true → Grow P K rs l (l1 ++ [s])
theorem Grow.trans {l1 l2 : List Sp} (h : Grow P K rs l l1) (k : Grow P K rs l1 l2) : Grow P K rs l l2 := by
  induction k with
  | refl => exact h
  | step s _ hm ih => exact .step s ih hm
theorem Grow.len {l1 : List Sp} (h : Grow P K rs l l1) : l.length ≤ l1.length := by
  induction h with
  | refl => exact Nat.le_refl _
  | step s _ hm ih => rw [List.length_append]; exact Nat.le_succ_of_le ih
theorem Grow.snd (hP : P ≤ 64) (hK : K ≤ 64) (h : Grow P K rs [] l) : SndIn P K (rs.filter (fun r => rightB P K r)) (inL l) ∧ l.length = totIn P (P * K) (inL l) := by
  generalize h0 : ([] : List Sp) = l0 at h
  induction h with
  | refl =>
    subst h0
    refine ⟨fun i c h => (by cases h), ?_⟩
    have h0 : ∀ m, totIn P m (inL []) = 0 := fun m => by
      induction m with
      | zero => rfl
      | succ m ih => show totIn P m _ + cnt (inL [] m) P = 0; rw [ih, cnt_none (inL [] m) P (fun _ _ => rfl)]
    exact (h0 _).symm
  | step s hg hm ih =>
    subst h0
    rename_i l1
    obtain ⟨hs, ht⟩ := ih
    obtain ⟨i, r, c, m, hr, hR, rfl, hc, h3, h4⟩ := may_form hm
    rw [may_at hP hK hr hR hc h3 h4, Bool.and_eq_true] at hm
    have hh := (right_iff hR).1
    have e : r.head = (r.head.toNat : Int) := by omega
    have hlt := head_lt hR
    have hmem : r ∈ rs.filter (fun r => rightB P K r) := List.mem_filter.2 ⟨List.mem_of_getElem? hr, hR⟩
    have hd := prem_der hR hmem hs hc (prem_of hm.1 h4 hR)
    have hno : inL l1 r.head.toNat c = false := by
      unfold inL
      rw [← e]
      have := hm.2
      cases h : (atF l1 r.head c).isSome with
      | false => rfl
      | true => rw [h] at this; cases this
    rw [e, inL_snoc]
    refine ⟨fun i' c' h => ?_, ?_⟩
    · unfold setIn at h
      rw [Bool.or_eq_true] at h
      rcases h with h | h
      · simp at h
        obtain ⟨rfl, rfl⟩ := h
        exact ⟨hlt, hc, hd⟩
      · exact hs i' c' h
    · rw [totIn_set hlt hc hno, List.length_append, ht]; rfl
theorem Grow.le (hP : P ≤ 64) (hK : K ≤ 64) (h : Grow P K rs [] l) : l.length ≤ P * (P * K) := by
  rw [(h.snd hP hK).2]; exact totIn_le _ _ _
theorem Grow.big (hP : P ≤ 64) (hK : K ≤ 64) (h : Grow P K rs [] l) : l.length ≤ 1000000 := by
  have h1 := h.le hP hK
  have h2 : P * (P * K) ≤ 64 * (64 * 64) := Nat.mul_le_mul hP (Nat.mul_le_mul hP hK)
  omega
/-- All that can be proved is, where no step more may be put. -/
theorem all_proved (hP : P ≤ 64) (hK : K ≤ 64) (h : Grow P K rs [] l) (hno : ∀ s, mayB P K rs l s = false) : ∀ i c, inL l i c = true ↔ Der K (rs.filter (fun r => rightB P K r)) i c := by
  intro i c
  obtain ⟨hs, _⟩ := h.snd hP hK
  refine ⟨fun h => (hs i c h).2.2, fun d => ?_⟩
  refine closed_all (P := P) (fun r hr => (List.mem_filter.1 hr).2) (fun r hr c hc hp => ?_) (fun i c h => (hs i c h).2.1) d
  have hR := (List.mem_filter.1 hr).2
  obtain ⟨j, hj, hj2⟩ := List.mem_iff_getElem.1 (List.mem_filter.1 hr).1
  have hr2 : rs[j]? = some r := by rw [List.getElem?_eq_getElem hj, hj2]
  obtain ⟨m, h3, h4, hm⟩ := prem_to hp hR
  have := hno ⟨j, r.head, c, m⟩
  rw [may_at hP hK hr2 hR hc h3 h4, hm, Bool.true_and] at this
  have hh := (right_iff hR).1
  unfold inL
  rw [show ((r.head.toNat : Nat) : Int) = r.head from by omega]
  cases h : (atF l r.head c).isSome with
  | true => rfl
  | false => rw [h] at this; cases this
end
end Go.Proofs.Ytahnedkdodjomaa
