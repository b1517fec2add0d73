/-
  Cubes, and covers that are prime and of which none is too much. No program in sight.
-/
import Derived.Test.YtloidoekmicloaaQuantPlain
set_option linter.unusedVariables false
set_option linter.unusedSimpArgs false
set_option linter.unnecessarySimpa false
namespace Go.Proofs.Ytloidoekmicloaa
open NodePlain
/-- Are bits as a row of numbers tells, from a place on? -/
def isB (β : Nat → Bool) : Nat → List Int → Bool
  | _, [] => true
  | i, x :: c => (decide (x < 0) || decide (x = if β i then 1 else 0)) && isB β (i + 1) c
theorem isB_iff (β : Nat → Bool) : ∀ (c : List Int) (i : Nat), isB β i c = true ↔ ∀ (v : Nat) (x : Int), c[v]? = some x → x < 0 ∨ x = if β (i + v) then 1 else 0
  | [], i => ⟨fun _ v x h => by simp at h, fun _ => rfl⟩
  | y :: c, i => by
    unfold isB
    rw [Bool.and_eq_true, isB_iff β c (i + 1), Bool.or_eq_true, decide_eq_true_eq, decide_eq_true_eq]
    constructor
    · rintro ⟨h1, h2⟩ v x hx
      cases v with
      | zero =>
        simp only [List.getElem?_cons_zero, Option.some.injEq] at hx
        subst hx
        exact h1
      | succ v =>
        rw [List.getElem?_cons_succ] at hx
        have := h2 v x hx
        rw [show i + 1 + v = i + (v + 1) by omega] at this
        exact this
    · intro h
      refine ⟨h 0 y rfl, fun v x hx => ?_⟩
      have := h (v + 1) x (by rw [List.getElem?_cons_succ]; exact hx)
      rw [show i + (v + 1) = i + 1 + v by omega] at this
      exact this
theorem isB0 (β : Nat → Bool) (c : List Int) : isB β 0 c = true ↔ ∀ (v : Nat) (x : Int), c[v]? = some x → x < 0 ∨ x = if β v then 1 else 0 := by
  rw [isB_iff]
  simp only [Nat.zero_add]
theorem isB_congr {β γ : Nat → Bool} {c : List Int} (h : ∀ v, v < c.length → β v = γ v) : isB β 0 c = isB γ 0 c := by
  rw [Bool.eq_iff_iff, isB0, isB0]
  have e : ∀ (v : Nat) (x : Int), c[v]? = some x → β v = γ v := fun v x hx => h v (List.getElem?_eq_some_iff.1 hx).1
  constructor
  · intro a v x hx; rw [← e v x hx]; exact a v x hx
  · intro a v x hx; rw [e v x hx]; exact a v x hx
theorem putB_eq (β : Nat → Bool) (v : Nat) (so : Bool) : putB β v so v = so := putB_same rfl
theorem putB_ne (β : Nat → Bool) {v w : Nat} (h : w ≠ v) (so : Bool) : putB β v so w = β w := putB_other (by omega)
theorem putC_twice (β : Nat → Bool) (v : Nat) (a b : Bool) : putB (putB β v a) v b = putB β v b := by
  funext i
  unfold putB
  split <;> rfl
theorem putC_comm (β : Nat → Bool) {v w : Nat} (h : v ≠ w) (a b : Bool) : putB (putB β v a) w b = putB (putB β w b) v a := by
  funext i
  unfold putB
  by_cases h1 : (i : Int) = v
  · have h2 : ¬ (i : Int) = w := by omega
    rw [if_neg h2, if_pos h1, if_pos h1]
  · rw [if_neg h1, if_neg h1]
theorem putC_own (β : Nat → Bool) (v : Nat) {so : Bool} (h : β v = so) : putB β (v : Int) so = β := by
  funext i
  unfold putB
  by_cases h2 : (i : Int) = (v : Int)
  · rw [if_pos h2]
    have : i = v := by omega
    rw [this, h]
  · rw [if_neg h2]
theorem isB_put {β : Nat → Bool} {c : List Int} {v : Nat} (h : c[v]? = some (-1)) (so : Bool) : isB (putB β v so) 0 c = isB β 0 c := by
  rw [Bool.eq_iff_iff, isB0, isB0]
  have key : ∀ (γ δ : Nat → Bool), (∀ w, w ≠ v → γ w = δ w) → (∀ (w : Nat) (x : Int), c[w]? = some x → x < 0 ∨ x = if γ w then 1 else 0) → ∀ (w : Nat) (x : Int), c[w]? = some x → x < 0 ∨ x = if δ w then 1 else 0 := fun γ δ hg a w x hx => by
    by_cases e : w = v
    · subst e
      rw [h] at hx
      simp only [Option.some.injEq] at hx
      left; omega
    · rw [← hg w e]; exact a w x hx
  exact ⟨key _ _ fun w hw => putB_ne β hw so, key _ _ fun w hw => (putB_ne β hw so).symm⟩
theorem isB_set {β : Nat → Bool} {c : List Int} {v : Nat} (h : c[v]? = some (-1)) (so : Bool) : isB β 0 (c.set v (if so then 1 else 0)) = (decide (β v = so) && isB β 0 c) := by
  have hlt := (List.getElem?_eq_some_iff.1 h).1
  rw [Bool.eq_iff_iff, Bool.and_eq_true, decide_eq_true_eq, isB0, isB0]
  constructor
  · intro a
    refine ⟨?_, fun w x hx => ?_⟩
    · have := a v _ (List.getElem?_set_self hlt)
      cases so <;> cases hb : β v <;> simp [hb] at this ⊢
    · by_cases e : w = v
      · subst e
        rw [h] at hx
        simp only [Option.some.injEq] at hx
        left; omega
      · exact a w x (by rw [List.getElem?_set_ne (fun e2 => e e2.symm)]; exact hx)
  · rintro ⟨hb, a⟩ w x hx
    by_cases e : w = v
    · subst e
      rw [List.getElem?_set_self hlt] at hx
      simp only [Option.some.injEq] at hx
      right
      rw [hb, ← hx]
    · rw [List.getElem?_set_ne (fun e2 => e e2.symm)] at hx
      exact a w x hx
theorem isB_wide {β : Nat → Bool} {c : List Int} (v : Nat) (h : isB β 0 c = true) : isB β 0 (c.set v (-1)) = true := by
  rw [isB0] at h ⊢
  intro w x hx
  by_cases e : w = v
  · subst e
    rcases Nat.lt_or_ge w c.length with hl | hl
    · rw [List.getElem?_set_self hl] at hx
      simp only [Option.some.injEq] at hx
      left; omega
    · rw [List.getElem?_eq_none (by simpa using hl)] at hx; cases hx
  · rw [List.getElem?_set_ne (fun e2 => e e2.symm)] at hx
    exact h w x hx
/-- A row that is a cube of so many variables. -/
def CubeR (k : Nat) (c : List Int) : Prop := c.length = k ∧ ∀ x, x ∈ c → x = 0 ∨ x = 1 ∨ x = -1
theorem CubeR.set {k : Nat} {c : List Int} (h : CubeR k c) (v : Nat) {x : Int} (hx : x = 0 ∨ x = 1 ∨ x = -1) : CubeR k (c.set v x) :=
  ⟨by rw [List.length_set]; exact h.1, fun y hy => by
    rcases List.mem_or_eq_of_mem_set hy with e | e
    · exact h.2 y e
    · subst e; exact hx⟩
/-- What a cover is: just what is between, prime, and none too much. -/
structure Isop (k : Nat) (low high : (Nat → Bool) → Bool) (L : List (List Int)) (f : (Nat → Bool) → Bool) : Prop where
  cube : ∀ c, c ∈ L → CubeR k c
  eq : ∀ β, f β = true ↔ ∃ c, c ∈ L ∧ isB β 0 c = true
  lo : ∀ β, low β = true → f β = true
  hi : ∀ β, f β = true → high β = true
  irr : ∀ (i : Nat) (c : List Int), L[i]? = some c → ∃ β, low β = true ∧ isB β 0 c = true ∧ ∀ (j : Nat) (d : List Int), L[j]? = some d → j ≠ i → isB β 0 d = false
  pri : ∀ c, c ∈ L → ∀ (v : Nat) (x : Int), c[v]? = some x → 0 ≤ x → ∃ β, isB β 0 (c.set v (-1)) = true ∧ high β = false
/-- What is so doesn't hang on a variable. -/
def Ind (S : (Nat → Bool) → Bool) (v : Nat) : Prop := ∀ β so, S (putB β v so) = S β
def half (S : (Nat → Bool) → Bool) (v : Nat) (so : Bool) : (Nat → Bool) → Bool := fun β => S (putB β v so)
theorem half_ind (S : (Nat → Bool) → Bool) (v : Nat) (so : Bool) : Ind (half S v so) v := fun β s => by
  unfold half
  rw [putC_twice]
theorem half_other {S : (Nat → Bool) → Bool} {v w : Nat} (h : Ind S w) (hw : w ≠ v) (so : Bool) : Ind (half S v so) w := fun β s => by
  unfold half
  rw [putC_comm β hw, h]
theorem half_at (S : (Nat → Bool) → Bool) (v : Nat) {β : Nat → Bool} {so : Bool} (h : β v = so) : half S v so β = S β := by
  unfold half
  rw [putC_own β v h]
/-- How a cover comes about: its cubes, what they are together, how many nodes it takes, and how many calls. -/
inductive Bt (k : Nat) : ((Nat → Bool) → Bool) → ((Nat → Bool) → Bool) → List (List Int) → ((Nat → Bool) → Bool) → Nat → Nat → Prop
  | zero (low high : (Nat → Bool) → Bool) (h : ∀ β, low β = false) : Bt k low high [] (fun _ => false) 0 0
  | one (low high : (Nat → Bool) → Bool) (β : Nat → Bool) (h0 : low β = true) (h1 : ∀ β, high β = true) : Bt k low high [List.replicate k (-1)] (fun _ => true) 0 0
  | step (low high : (Nat → Bool) → Bool) (v : Nat) (hv : v < k) (β0 : Nat → Bool) (h0 : low β0 = true) (β1 : Nat → Bool) (h1 : high β1 = false) (hind : ∀ w, w < v → Ind low w ∧ Ind high w) (hdep : ¬ (Ind low v ∧ Ind high v))
      (A B C : List (List Int)) (fa fb fc : (Nat → Bool) → Bool) (na nb nc ca cb cc : Nat)
      (a : Bt k (fun β => !half high v true β && half low v false β) (half high v false) A fa na ca)
      (b : Bt k (fun β => !half high v false β && half low v true β) (half high v true) B fb nb cb)
      (c : Bt k (fun β => (!fa β && half low v false β) || (!fb β && half low v true β)) (fun β => half high v false β && half high v true β) C fc nc cc) :
      Bt k low high (A.map (fun c => c.set v 0) ++ B.map (fun c => c.set v 1) ++ C) (fun β => (if β v then fb β else fa β) || fc β) (na + nb + nc + 8 * 2 ^ (k - v)) (ca + cb + cc + 12)
theorem Bt.ind {k : Nat} {low high f : (Nat → Bool) → Bool} {L : List (List Int)} {n m : Nat} (h : Bt k low high L f n m) : ∀ w, w < k → Ind low w → Ind high w → (∀ c, c ∈ L → c[w]? = some (-1)) ∧ Ind f w := by
  induction h with
  | zero low high h => exact fun w _ _ _ => ⟨fun c hc => by simp at hc, fun _ _ => rfl⟩
  | one low high β h0 h1 =>
    refine fun w hw _ _ => ⟨fun c hc => ?_, fun _ _ => rfl⟩
    obtain rfl : c = List.replicate k (-1) := by simpa using hc
    rw [List.getElem?_replicate, if_pos hw]
  | step low high v hv β0 h0 β1 h1 hind hdep A B C fa fb fc na nb nc ca cb cc a b c ia ib ic =>
    intro w hw hl hh
    have hwv : w ≠ v := fun e => hdep (by subst e; exact ⟨hl, hh⟩)
    have l0 := half_other hl hwv false
    have l1 := half_other hl hwv true
    have g0 := half_other hh hwv false
    have g1 := half_other hh hwv true
    obtain ⟨ra, fa1⟩ := ia w hw (fun β s => by show (!half high v true (putB β w s) && half low v false (putB β w s)) = _; rw [g1, l0]) g0
    obtain ⟨rb, fb1⟩ := ib w hw (fun β s => by show (!half high v false (putB β w s) && half low v true (putB β w s)) = _; rw [g0, l1]) g1
    obtain ⟨rc, fc1⟩ := ic w hw (fun β s => by show ((!fa (putB β w s) && half low v false (putB β w s)) || (!fb (putB β w s) && half low v true (putB β w s))) = _; rw [fa1, fb1, l0, l1]) (fun β s => by show (half high v false (putB β w s) && half high v true (putB β w s)) = _; rw [g0, g1])
    refine ⟨fun d hd => ?_, fun β s => ?_⟩
    · rw [List.mem_append, List.mem_append, List.mem_map, List.mem_map] at hd
      rcases hd with (⟨c, hc, rfl⟩ | ⟨c, hc, rfl⟩) | hd
      · rw [List.getElem?_set_ne (fun e => hwv e.symm)]; exact ra c hc
      · rw [List.getElem?_set_ne (fun e => hwv e.symm)]; exact rb c hc
      · exact rc d hd
    · show ((if putB β w s v then fb (putB β w s) else fa (putB β w s)) || fc (putB β w s)) = _
      rw [putB_ne β (fun e => hwv e.symm), fa1, fb1, fc1]
theorem mem_three {A B C : List (List Int)} {g h : List Int → List Int} {d : List Int} (hd : d ∈ A.map g ++ B.map h ++ C) : (∃ c, c ∈ A ∧ d = g c) ∨ (∃ c, c ∈ B ∧ d = h c) ∨ d ∈ C := by
  rw [List.mem_append, List.mem_append, List.mem_map, List.mem_map] at hd
  rcases hd with (⟨c, hc, rfl⟩ | ⟨c, hc, rfl⟩) | hd
  · exact .inl ⟨c, hc, rfl⟩
  · exact .inr (.inl ⟨c, hc, rfl⟩)
  · exact .inr (.inr hd)
theorem get_three {A B C : List (List Int)} {g h : List Int → List Int} {i : Nat} {d : List Int} (hd : (A.map g ++ B.map h ++ C)[i]? = some d) :
    (∃ c, A[i]? = some c ∧ d = g c ∧ i < A.length) ∨ (∃ c, B[i - A.length]? = some c ∧ d = h c ∧ A.length ≤ i ∧ i < A.length + B.length) ∨ (C[i - A.length - B.length]? = some d ∧ A.length + B.length ≤ i) := by
  rcases Nat.lt_or_ge i A.length with h1 | h1
  · rw [List.append_assoc, List.getElem?_append_left (by simpa using h1), List.getElem?_map, List.getElem?_eq_getElem h1] at hd
    simp only [Option.map_some, Option.some.injEq] at hd
    exact .inl ⟨_, List.getElem?_eq_getElem h1, hd.symm, h1⟩
  · rcases Nat.lt_or_ge i (A.length + B.length) with h2 | h2
    · rw [List.getElem?_append_left (by simp; omega), List.getElem?_append_right (by simpa using h1), List.length_map, List.getElem?_map, List.getElem?_eq_getElem (by omega)] at hd
      simp only [Option.map_some, Option.some.injEq] at hd
      exact .inr (.inl ⟨_, List.getElem?_eq_getElem (by omega), hd.symm, h1, h2⟩)
    · rw [List.getElem?_append_right (by simp; omega), List.length_append, List.length_map, List.length_map] at hd
      exact .inr (.inr ⟨by rw [Nat.sub_sub]; exact hd, h2⟩)
/-- A cover that comes about so is one. -/
theorem Bt.isop {k : Nat} {low high f : (Nat → Bool) → Bool} {L : List (List Int)} {n m : Nat} (h : Bt k low high L f n m) : (∀ β, low β = true → high β = true) → Isop k low high L f := by
  induction h with
  | zero low high h =>
    intro _
    refine ⟨fun c hc => by simp at hc, fun β => ⟨fun h => (by cases h), fun ⟨c, hc, _⟩ => by simp at hc⟩, fun β hb => ?_, fun β hb => (by cases hb), fun i c hc => by simp at hc, fun c hc => by simp at hc⟩
    rw [h β] at hb; cases hb
  | one low high β h0 h1 =>
    intro _
    have hrep : ∀ (v : Nat) (x : Int), (List.replicate k (-1 : Int))[v]? = some x → x = -1 := fun v x hx => by
      rw [List.getElem?_replicate] at hx
      split at hx
      · simpa using hx.symm
      · cases hx
    have hall : ∀ β, isB β 0 (List.replicate k (-1)) = true := fun β => (isB0 _ _).2 fun v x hx => by have := hrep v x hx; left; omega
    refine ⟨fun c hc => ?_, fun γ => ⟨fun _ => ⟨_, List.mem_singleton.2 rfl, hall γ⟩, fun _ => rfl⟩, fun _ _ => rfl, fun γ _ => h1 γ, fun i c hc => ?_, fun c hc v x hx hx0 => ?_⟩
    · obtain rfl : c = List.replicate k (-1) := by simpa using hc
      exact ⟨List.length_replicate, fun x hx => by rw [List.mem_replicate] at hx; exact .inr (.inr hx.2)⟩
    · cases i with
      | zero =>
        simp only [List.getElem?_cons_zero, Option.some.injEq] at hc
        subst hc
        refine ⟨β, h0, hall β, fun j d hd hj => ?_⟩
        cases j with
        | zero => exact absurd rfl hj
        | succ j => simp at hd
      | succ i => simp at hc
    · obtain rfl : c = List.replicate k (-1) := by simpa using hc
      have := hrep v x hx
      omega
  | step low high v hv β0 h0 β1 h1 hind hdep A B C fa fb fc na nb nc ca cb cc a b c ia ib ic =>
    intro hle
    have hl0 : Ind (fun β => !half high v true β && half low v false β) v := fun β s => by show (!half high v true (putB β v s) && half low v false (putB β v s)) = _; rw [half_ind, half_ind]
    have hl1 : Ind (fun β => !half high v false β && half low v true β) v := fun β s => by show (!half high v false (putB β v s) && half low v true (putB β v s)) = _; rw [half_ind, half_ind]
    obtain ⟨fra, inda⟩ := a.ind v hv hl0 (half_ind _ _ _)
    obtain ⟨frb, indb⟩ := b.ind v hv hl1 (half_ind _ _ _)
    obtain ⟨frc, indc⟩ := c.ind v hv (fun β s => by show ((!fa (putB β v s) && half low v false (putB β v s)) || (!fb (putB β v s) && half low v true (putB β v s))) = _; rw [half_ind, half_ind, inda, indb]) (fun β s => by show (half high v false (putB β v s) && half high v true (putB β v s)) = _; rw [half_ind, half_ind])
    have hle0 : ∀ so β, half low v so β = true → half high v so β = true := fun so β hb => hle _ hb
    have IA := ia (fun β hb => by
      rw [Bool.and_eq_true] at hb
      exact hle0 false β hb.2)
    have IB := ib (fun β hb => by
      rw [Bool.and_eq_true] at hb
      exact hle0 true β hb.2)
    have IC := ic (fun β hb => by
      rw [Bool.or_eq_true, Bool.and_eq_true, Bool.and_eq_true] at hb
      rw [Bool.and_eq_true]
      rcases hb with ⟨h2, h3⟩ | ⟨h2, h3⟩
      · refine ⟨hle0 false β h3, ?_⟩
        cases h4 : half high v true β with
        | true => rfl
        | false =>
          have := IA.lo β (by rw [h4, h3]; rfl)
          rw [this] at h2; cases h2
      · refine ⟨?_, hle0 true β h3⟩
        cases h4 : half high v false β with
        | true => rfl
        | false =>
          have := IB.lo β (by rw [h4, h3]; rfl)
          rw [this] at h2; cases h2)
    have s0 : ∀ (β : Nat → Bool) (d : List Int), d ∈ A → isB β 0 (d.set v 0) = (decide (β v = false) && isB β 0 d) := fun β d hd => isB_set (fra d hd) false
    have s1 : ∀ (β : Nat → Bool) (d : List Int), d ∈ B → isB β 0 (d.set v 1) = (decide (β v = true) && isB β 0 d) := fun β d hd => isB_set (frb d hd) true
    refine ⟨fun d hd => ?_, fun β => ?_, fun β hb => ?_, fun β hb => ?_, fun i d hd => ?_, fun d hd w x hx hx0 => ?_⟩
    · rcases mem_three hd with ⟨e, he, rfl⟩ | ⟨e, he, rfl⟩ | he
      · exact (IA.cube e he).set v (.inl rfl)
      · exact (IB.cube e he).set v (.inr (.inl rfl))
      · exact IC.cube d he
    · show ((if β v then fb β else fa β) || fc β) = true ↔ _
      rw [Bool.or_eq_true]
      constructor
      · rintro (h2 | h2)
        · cases hb : β v with
          | true =>
            rw [hb, if_pos rfl] at h2
            obtain ⟨e, he, h3⟩ := (IB.eq β).1 h2
            refine ⟨e.set v 1, ?_, ?_⟩
            · rw [List.mem_append, List.mem_append]; exact .inl (.inr (List.mem_map.2 ⟨e, he, rfl⟩))
            · rw [s1 β e he, hb, h3]; rfl
          | false =>
            rw [hb, if_neg (by decide)] at h2
            obtain ⟨e, he, h3⟩ := (IA.eq β).1 h2
            refine ⟨e.set v 0, ?_, ?_⟩
            · rw [List.mem_append, List.mem_append]; exact .inl (.inl (List.mem_map.2 ⟨e, he, rfl⟩))
            · rw [s0 β e he, hb, h3]; rfl
        · obtain ⟨e, he, h3⟩ := (IC.eq β).1 h2
          exact ⟨e, by rw [List.mem_append]; exact .inr he, h3⟩
      · rintro ⟨d, hd, h2⟩
        rcases mem_three hd with ⟨e, he, rfl⟩ | ⟨e, he, rfl⟩ | he
        · rw [s0 β e he, Bool.and_eq_true, decide_eq_true_eq] at h2
          left
          rw [h2.1, if_neg (by decide)]
          exact (IA.eq β).2 ⟨e, he, h2.2⟩
        · rw [s1 β e he, Bool.and_eq_true, decide_eq_true_eq] at h2
          left
          rw [h2.1, if_pos rfl]
          exact (IB.eq β).2 ⟨e, he, h2.2⟩
        · exact .inr ((IC.eq β).2 ⟨d, he, h2⟩)
    · show ((if β v then fb β else fa β) || fc β) = true
      rw [Bool.or_eq_true]
      cases hbv : β v with
      | true =>
        rw [if_pos rfl]
        cases h2 : fb β with
        | true => exact .inl rfl
        | false =>
          right
          refine IC.lo β ?_
          rw [h2, half_at low v hbv, hb]
          simp
      | false =>
        rw [if_neg (by decide)]
        cases h2 : fa β with
        | true => exact .inl rfl
        | false =>
          right
          refine IC.lo β ?_
          rw [h2, half_at low v hbv, hb]
          simp
    · have hb2 : ((if β v then fb β else fa β) || fc β) = true := hb
      rw [Bool.or_eq_true] at hb2
      cases hbv : β v with
      | true =>
        rw [hbv, if_pos rfl] at hb2
        rcases hb2 with h2 | h2
        · have := IB.hi β h2
          rw [half_at high v hbv] at this
          exact this
        · have := IC.hi β h2
          rw [Bool.and_eq_true, half_at high v hbv] at this
          exact this.2
      | false =>
        rw [hbv, if_neg (by decide)] at hb2
        rcases hb2 with h2 | h2
        · have := IA.hi β h2
          rw [half_at high v hbv] at this
          exact this
        · have := IC.hi β h2
          rw [Bool.and_eq_true, half_at high v hbv] at this
          exact this.1
    · rcases get_three hd with ⟨e, he, rfl, hi⟩ | ⟨e, he, rfl, hi, hi2⟩ | ⟨he, hi⟩
      · obtain ⟨β, b1, b2, b3⟩ := IA.irr i e he
        rw [Bool.and_eq_true] at b1
        have hm := List.mem_of_getElem? he
        refine ⟨putB β v false, b1.2, ?_, fun j d hj hji => ?_⟩
        · rw [s0 _ e hm, putB_eq, isB_put (fra e hm), b2]; rfl
        · rcases get_three hj with ⟨e', he', rfl, hj2⟩ | ⟨e', he', rfl, hj2, hj3⟩ | ⟨he', hj2⟩
          · have hm' := List.mem_of_getElem? he'
            rw [s0 _ e' hm', isB_put (fra e' hm'), b3 j e' he' hji, Bool.and_false]
          · have hm' := List.mem_of_getElem? he'
            rw [s1 _ e' hm', putB_eq]; rfl
          · have hm' := List.mem_of_getElem? he'
            cases h5 : isB (putB β v false) 0 d with
            | false => rfl
            | true =>
              rw [isB_put (frc d hm')] at h5
              have := IC.hi β ((IC.eq β).2 ⟨d, hm', h5⟩)
              rw [Bool.and_eq_true] at this
              rw [this.2] at b1
              cases b1.1
      · obtain ⟨β, b1, b2, b3⟩ := IB.irr _ e he
        rw [Bool.and_eq_true] at b1
        have hm := List.mem_of_getElem? he
        refine ⟨putB β v true, b1.2, ?_, fun j d hj hji => ?_⟩
        · rw [s1 _ e hm, putB_eq, isB_put (frb e hm), b2]; rfl
        · rcases get_three hj with ⟨e', he', rfl, hj2⟩ | ⟨e', he', rfl, hj2, hj3⟩ | ⟨he', hj2⟩
          · have hm' := List.mem_of_getElem? he'
            rw [s0 _ e' hm', putB_eq]; rfl
          · have hm' := List.mem_of_getElem? he'
            rw [s1 _ e' hm', isB_put (frb e' hm'), b3 _ e' he' (by omega), Bool.and_false]
          · have hm' := List.mem_of_getElem? he'
            cases h5 : isB (putB β v true) 0 d with
            | false => rfl
            | true =>
              rw [isB_put (frc d hm')] at h5
              have := IC.hi β ((IC.eq β).2 ⟨d, hm', h5⟩)
              rw [Bool.and_eq_true] at this
              rw [this.1] at b1
              cases b1.1
      · obtain ⟨β, b1, b2, b3⟩ := IC.irr _ d he
        have hm := List.mem_of_getElem? he
        rw [Bool.or_eq_true, Bool.and_eq_true, Bool.and_eq_true] at b1
        rcases b1 with ⟨b4, b5⟩ | ⟨b4, b5⟩
        · have b4 : fa β = false := by simpa using b4
          refine ⟨putB β v false, b5, by rw [isB_put (frc d hm)]; exact b2, fun j d' hj hji => ?_⟩
          rcases get_three hj with ⟨e', he', rfl, hj2⟩ | ⟨e', he', rfl, hj2, hj3⟩ | ⟨he', hj2⟩
          · have hm' := List.mem_of_getElem? he'
            rw [s0 _ e' hm', isB_put (fra e' hm')]
            cases h5 : isB β 0 e' with
            | false => rw [Bool.and_false]
            | true => have := (IA.eq β).2 ⟨e', hm', h5⟩; rw [b4] at this; cases this
          · have hm' := List.mem_of_getElem? he'
            rw [s1 _ e' hm', putB_eq]; rfl
          · have hm' := List.mem_of_getElem? he'
            rw [isB_put (frc d' hm')]
            exact b3 _ d' he' (by omega)
        · have b4 : fb β = false := by simpa using b4
          refine ⟨putB β v true, b5, by rw [isB_put (frc d hm)]; exact b2, fun j d' hj hji => ?_⟩
          rcases get_three hj with ⟨e', he', rfl, hj2⟩ | ⟨e', he', rfl, hj2, hj3⟩ | ⟨he', hj2⟩
          · have hm' := List.mem_of_getElem? he'
            rw [s0 _ e' hm', putB_eq]; rfl
          · have hm' := List.mem_of_getElem? he'
            rw [s1 _ e' hm', isB_put (frb e' hm')]
            cases h5 : isB β 0 e' with
            | false => rw [Bool.and_false]
            | true => have := (IB.eq β).2 ⟨e', hm', h5⟩; rw [b4] at this; cases this
          · have hm' := List.mem_of_getElem? he'
            rw [isB_put (frc d' hm')]
            exact b3 _ d' he' (by omega)
    · have hself : ∀ e : List Int, e[v]? = some (-1) → ∀ y : Int, (e.set v y).set v (-1) = e := fun e he y => by
        rw [List.set_set]
        apply List.ext_getElem?
        intro j
        by_cases ej : v = j
        · subst ej
          rw [List.getElem?_set_self (List.getElem?_eq_some_iff.1 he).1, he]
        · rw [List.getElem?_set_ne ej]
      rcases mem_three hd with ⟨e, he, rfl⟩ | ⟨e, he, rfl⟩ | he
      · by_cases hw : v = w
        · subst hw
          rw [hself e (fra e he)]
          obtain ⟨i, hi⟩ := List.getElem?_of_mem he
          obtain ⟨β, b1, b2, _⟩ := IA.irr i e hi
          rw [Bool.and_eq_true] at b1
          refine ⟨putB β v true, by rw [isB_put (fra e he)]; exact b2, ?_⟩
          have := b1.1
          show half high v true β = false
          simpa using this
        · rw [List.getElem?_set_ne hw] at hx
          obtain ⟨β, b1, b2⟩ := IA.pri e he w x hx hx0
          have hfr : (e.set w (-1))[v]? = some (-1) := by rw [List.getElem?_set_ne (fun e => hw e.symm)]; exact fra e he
          refine ⟨putB β v false, ?_, b2⟩
          have := isB_set (β := putB β v false) hfr false
          rw [List.set_comm _ _ hw]
          rw [show (e.set w (-1)).set v 0 = (e.set w (-1)).set v (if false = true then 1 else 0) from rfl, this, putB_eq, isB_put hfr, b1]
          rfl
      · by_cases hw : v = w
        · subst hw
          rw [hself e (frb e he)]
          obtain ⟨i, hi⟩ := List.getElem?_of_mem he
          obtain ⟨β, b1, b2, _⟩ := IB.irr i e hi
          rw [Bool.and_eq_true] at b1
          refine ⟨putB β v false, by rw [isB_put (frb e he)]; exact b2, ?_⟩
          have := b1.1
          show half high v false β = false
          simpa using this
        · rw [List.getElem?_set_ne hw] at hx
          obtain ⟨β, b1, b2⟩ := IB.pri e he w x hx hx0
          have hfr : (e.set w (-1))[v]? = some (-1) := by rw [List.getElem?_set_ne (fun e => hw e.symm)]; exact frb e he
          refine ⟨putB β v true, ?_, b2⟩
          have := isB_set (β := putB β v true) hfr true
          rw [List.set_comm _ _ hw]
          rw [show (e.set w (-1)).set v 1 = (e.set w (-1)).set v (if true = true then 1 else 0) from rfl, this, putB_eq, isB_put hfr, b1]
          rfl
      · obtain ⟨β, b1, b2⟩ := IC.pri d he w x hx hx0
        have hwv : v ≠ w := fun e => by
          subst e
          rw [frc d he] at hx
          simp only [Option.some.injEq] at hx
          omega
        have hfr : (d.set w (-1))[v]? = some (-1) := by rw [List.getElem?_set_ne (fun e => hwv e.symm)]; exact frc d he
        rw [Bool.and_eq_false_iff] at b2
        rcases b2 with b2 | b2
        · exact ⟨putB β v false, by rw [isB_put hfr]; exact b1, b2⟩
        · exact ⟨putB β v true, by rw [isB_put hfr]; exact b1, b2⟩
end Go.Proofs.Ytloidoekmicloaa
/-
  Each two diagrams have a cover between them; what it costs; how many cubes it has; what a cube's own is. No program in sight.
-/
set_option linter.unusedVariables false
set_option linter.unusedSimpArgs false
set_option linter.unnecessarySimpa false
namespace Go.Proofs.Ytloidoekmicloaa
open NodePlain
/-- What is so hangs on the first so many variables alone. -/
def Few (k : Nat) (S : (Nat → Bool) → Bool) : Prop := ∀ β γ : Nat → Bool, (∀ w, w < k → β w = γ w) → S β = S γ
theorem few_half {k : Nat} {S : (Nat → Bool) → Bool} (h : Few k S) (v : Nat) (so : Bool) : Few k (half S v so) := fun β γ e => by
  unfold half
  refine h _ _ fun w hw => ?_
  by_cases hv : w = v
  · subst hv; rw [putB_eq, putB_eq]
  · rw [putB_ne β hv, putB_ne γ hv]; exact e w hw
theorem Isop.few {k : Nat} {low high f : (Nat → Bool) → Bool} {L : List (List Int)} (h : Isop k low high L f) : Few k f := fun β γ e => by
  rw [Bool.eq_iff_iff, h.eq, h.eq]
  have key : ∀ c, c ∈ L → isB β 0 c = isB γ 0 c := fun c hc => isB_congr fun v hv => e v (by rw [(h.cube c hc).1] at hv; exact hv)
  constructor
  · rintro ⟨c, hc, h2⟩; exact ⟨c, hc, by rw [← key c hc]; exact h2⟩
  · rintro ⟨c, hc, h2⟩; exact ⟨c, hc, by rw [key c hc]; exact h2⟩
theorem few_const {k : Nat} {S : (Nat → Bool) → Bool} (h : Few k S) (hi : ∀ w, w < k → Ind S w) (β γ : Nat → Bool) : S β = S γ := by
  have key : ∀ (δ : Nat → Bool) (j : Nat), j ≤ k → S δ = S (fun i => if i < j then false else δ i) := fun δ j => by
    induction j with
    | zero => intro _; congr 1
    | succ j ih =>
      intro hj
      rw [ih (by omega), ← hi j (by omega) (fun i => if i < j then false else δ i) false]
      congr 1
      funext i
      unfold putB
      by_cases e : (i : Int) = (j : Int)
      · rw [if_pos e, if_pos (by omega)]
      · rw [if_neg e]
        show (if i < j then false else δ i) = if i < j + 1 then false else δ i
        by_cases e2 : i < j
        · rw [if_pos e2, if_pos (by omega)]
        · rw [if_neg e2, if_neg (by omega)]
  rw [key β k (Nat.le_refl _), key γ k (Nat.le_refl _)]
  refine h _ _ fun w hw => ?_
  show (if w < k then false else β w) = if w < k then false else γ w
  rw [if_pos hw, if_pos hw]
theorem least_of {p : Nat → Prop} {n : Nat} (h : p n) : ∃ v, v ≤ n ∧ p v ∧ ∀ w, w < v → ¬ p w := by
  induction n using Nat.strongRecOn with
  | _ n ih =>
    by_cases e : ∃ w, w < n ∧ p w
    · obtain ⟨w, hw, hp⟩ := e
      obtain ⟨v, h1, h2, h3⟩ := ih w hw hp
      exact ⟨v, by omega, h2, h3⟩
    · exact ⟨n, Nat.le_refl _, h, fun w hw hp => e ⟨w, hw, hp⟩⟩
/-- How many nodes, and calls, a cover of so many variables takes. -/
def tN : Nat → Nat
  | 0 => 0
  | m + 1 => 3 * tN m + 8 * 2 ^ (m + 1)
def tC : Nat → Nat
  | 0 => 0
  | m + 1 => 3 * tC m + 12
theorem bt_ex (k : Nat) : ∀ (m : Nat) (low high : (Nat → Bool) → Bool), (∀ w, w + m < k → Ind low w ∧ Ind high w) → Few k low → Few k high → (∀ β, low β = true → high β = true) → ∃ L f n c, Bt k low high L f n c ∧ n ≤ tN m ∧ c ≤ tC m := by
  intro m
  induction m with
  | zero =>
    intro low high hi fl fh hle
    have il : ∀ w, w < k → Ind low w := fun w hw => (hi w (by omega)).1
    by_cases e : low (fun _ => false) = true
    · exact ⟨_, _, _, _, Bt.one low high _ e (fun β => hle β (by rw [few_const fl il β (fun _ => false)]; exact e)), Nat.zero_le _, Nat.zero_le _⟩
    · exact ⟨_, _, _, _, Bt.zero low high (fun β => by rw [few_const fl il β (fun _ => false)]; simpa using e), Nat.zero_le _, Nat.zero_le _⟩
  | succ m ih =>
    intro low high hi fl fh hle
    by_cases e0 : ∃ β, low β = true
    · obtain ⟨β0, h0⟩ := e0
      by_cases e1 : ∃ β, high β = false
      · obtain ⟨β1, h1⟩ := e1
        have hex : ∃ n, n < k ∧ ¬ (Ind low n ∧ Ind high n) := Classical.byContradiction fun hn => by
          have hall : ∀ w, w < k → Ind high w := fun w hw => Classical.byContradiction fun h2 => hn ⟨w, hw, fun h3 => h2 h3.2⟩
          have := few_const fh hall β0 β1
          rw [hle β0 h0, h1] at this
          cases this
        obtain ⟨n, hn, hp⟩ := hex
        obtain ⟨v, hvn, hpv, hlt⟩ := least_of (p := fun n => ¬ (Ind low n ∧ Ind high n)) hp
        have hind : ∀ w, w < v → Ind low w ∧ Ind high w := fun w hw => Classical.byContradiction fun h2 => hlt w hw h2
        have hvm : k ≤ v + (m + 1) := by
          rcases Nat.lt_or_ge (v + (m + 1)) k with h2 | h2
          · exact absurd (hi v h2) hpv
          · exact h2
        have hl : ∀ so w, w + m < k → Ind (half low v so) w := fun so w hw => by
          by_cases e : w = v
          · subst e; exact half_ind _ _ _
          · exact half_other (hind w (by omega)).1 e so
        have hh : ∀ so w, w + m < k → Ind (half high v so) w := fun so w hw => by
          by_cases e : w = v
          · subst e; exact half_ind _ _ _
          · exact half_other (hind w (by omega)).2 e so
        have hle0 : ∀ so β, half low v so β = true → half high v so β = true := fun so β hb => hle _ hb
        have key : ∀ so : Bool, ∃ L f n c, Bt k (fun β => !half high v (!so) β && half low v so β) (half high v so) L f n c ∧ n ≤ tN m ∧ c ≤ tC m := fun so =>
          ih (fun β => !half high v (!so) β && half low v so β) (half high v so) (fun w hw => ⟨fun β s => by show (!half high v (!so) (putB β w s) && half low v so (putB β w s)) = _; rw [hh _ w hw, hl _ w hw], hh so w hw⟩)
            (fun β γ e => by show (!half high v (!so) β && half low v so β) = (!half high v (!so) γ && half low v so γ); rw [few_half fh v (!so) β γ e, few_half fl v so β γ e]) (few_half fh v so)
            (fun β hb => by rw [Bool.and_eq_true] at hb; exact hle0 so β hb.2)
        obtain ⟨A, fa, na, ca, ba, hna, hca⟩ := key false
        obtain ⟨B, fb, nb, cb, bb, hnb, hcb⟩ := key true
        have ba' : Bt k (fun β => !half high v true β && half low v false β) (half high v false) A fa na ca := ba
        have bb' : Bt k (fun β => !half high v false β && half low v true β) (half high v true) B fb nb cb := bb
        have IA := ba'.isop (fun β hb => by rw [Bool.and_eq_true] at hb; exact hle0 false β hb.2)
        have IB := bb'.isop (fun β hb => by rw [Bool.and_eq_true] at hb; exact hle0 true β hb.2)
        have iA : ∀ w, w + m < k → Ind fa w := fun w hw => (ba'.ind w (by omega) (fun β s => by show (!half high v true (putB β w s) && half low v false (putB β w s)) = _; rw [hh _ w hw, hl _ w hw]) (hh _ w hw)).2
        have iB : ∀ w, w + m < k → Ind fb w := fun w hw => (bb'.ind w (by omega) (fun β s => by show (!half high v false (putB β w s) && half low v true (putB β w s)) = _; rw [hh _ w hw, hl _ w hw]) (hh _ w hw)).2
        obtain ⟨C, fc, nc, cc, bc, hnc, hcc⟩ := ih (fun β => (!fa β && half low v false β) || (!fb β && half low v true β)) (fun β => half high v false β && half high v true β)
          (fun w hw => ⟨fun β s => by show ((!fa (putB β w s) && half low v false (putB β w s)) || (!fb (putB β w s) && half low v true (putB β w s))) = _; rw [iA w hw, iB w hw, hl _ w hw, hl _ w hw], fun β s => by show (half high v false (putB β w s) && half high v true (putB β w s)) = _; rw [hh _ w hw, hh _ w hw]⟩)
          (fun β γ e => by show ((!fa β && half low v false β) || (!fb β && half low v true β)) = ((!fa γ && half low v false γ) || (!fb γ && half low v true γ)); rw [IA.few β γ e, IB.few β γ e, few_half fl v false β γ e, few_half fl v true β γ e])
          (fun β γ e => by show (half high v false β && half high v true β) = (half high v false γ && half high v true γ); rw [few_half fh v false β γ e, few_half fh v true β γ e])
          (fun β hb => by
            rw [Bool.or_eq_true, Bool.and_eq_true, Bool.and_eq_true] at hb
            rw [Bool.and_eq_true]
            rcases hb with ⟨h2, h3⟩ | ⟨h2, h3⟩
            · refine ⟨hle0 false β h3, ?_⟩
              cases h4 : half high v true β with
              | true => rfl
              | false =>
                have := IA.lo β (by rw [h4, h3]; rfl)
                rw [this] at h2; cases h2
            · refine ⟨?_, hle0 true β h3⟩
              cases h4 : half high v false β with
              | true => rfl
              | false =>
                have := IB.lo β (by rw [h4, h3]; rfl)
                rw [this] at h2; cases h2)
        have hp2 : 2 ^ (k - v) ≤ 2 ^ (m + 1) := Nat.pow_le_pow_right (by omega) (by omega)
        refine ⟨_, _, _, _, Bt.step low high v (by omega) β0 h0 β1 h1 hind hpv A B C fa fb fc na nb nc ca cb cc ba' bb' bc, ?_, ?_⟩
        · show _ ≤ 3 * tN m + 8 * 2 ^ (m + 1)
          omega
        · show _ ≤ 3 * tC m + 12
          omega
      · exact ⟨_, _, _, _, Bt.one low high β0 h0 (fun β => by
          cases h2 : high β with
          | true => rfl
          | false => exact absurd ⟨β, h2⟩ e1), Nat.zero_le _, Nat.zero_le _⟩
    · exact ⟨_, _, _, _, Bt.zero low high (fun β => by
        cases h2 : low β with
        | false => rfl
        | true => exact absurd ⟨β, h2⟩ e0), Nat.zero_le _, Nat.zero_le _⟩
theorem bt_all {k : Nat} {low high : (Nat → Bool) → Bool} (fl : Few k low) (fh : Few k high) (hle : ∀ β, low β = true → high β = true) : ∃ L f n c, Bt k low high L f n c ∧ n ≤ tN k ∧ c ≤ tC k :=
  bt_ex k k low high (fun w hw => absurd hw (by omega)) fl fh hle
/-- A number whose bits are told. -/
def numB (β : Nat → Bool) : Nat → Nat
  | 0 => 0
  | k + 1 => if β k = true then 2 ^ k + numB β k else numB β k
theorem numB_lt (β : Nat → Bool) : ∀ k, numB β k < 2 ^ k
  | 0 => Nat.one_pos
  | k + 1 => by
    have := numB_lt β k
    unfold numB
    rw [Nat.pow_succ]
    split <;> omega
theorem numB_bit (β : Nat → Bool) : ∀ k v, v < k → (numB β k).testBit v = β v
  | 0, v, h => absurd h (Nat.not_lt_zero _)
  | k + 1, v, h => by
    unfold numB
    have hl := numB_lt β k
    by_cases hv : v = k
    · subst hv
      cases hb : β v with
      | true => rw [if_pos rfl, Nat.testBit_two_pow_add_eq, Nat.testBit_lt_two_pow hl]; rfl
      | false => rw [if_neg (by decide), Nat.testBit_lt_two_pow hl]
    · have ih := numB_bit β k v (by omega)
      split
      · rw [Nat.testBit_two_pow_add_gt (by omega)]; exact ih
      · exact ih
/-- A cover has no more cubes than there are numbers of its bits. -/
theorem Isop.len {k : Nat} {low high f : (Nat → Bool) → Bool} {L : List (List Int)} (h : Isop k low high L f) : L.length ≤ 2 ^ k := by
  have key : ∀ i, i < L.length → ∃ n, n < 2 ^ k ∧ ∀ (j : Nat) (d : List Int), L[j]? = some d → (isB n.testBit 0 d = true ↔ j = i) := fun i hi => by
    obtain ⟨β, _, b2, b3⟩ := h.irr i _ (List.getElem?_eq_getElem hi)
    refine ⟨numB β k, numB_lt β k, fun j d hj => ?_⟩
    have e : isB (numB β k).testBit 0 d = isB β 0 d := isB_congr fun v hv => numB_bit β k v (by rw [(h.cube d (List.mem_of_getElem? hj)).1] at hv; exact hv)
    rw [e]
    constructor
    · intro h2
      apply Classical.byContradiction
      intro h3
      rw [b3 j d hj h3] at h2
      cases h2
    · rintro rfl
      rw [List.getElem?_eq_getElem hi] at hj
      simp only [Option.some.injEq] at hj
      rw [← hj]
      exact b2
  have hch : ∃ g : Nat → Nat, ∀ i, i < L.length → g i < 2 ^ k ∧ ∀ (j : Nat) (d : List Int), L[j]? = some d → (isB (g i).testBit 0 d = true ↔ j = i) :=
    ⟨fun i => if hi : i < L.length then (key i hi).choose else 0, fun i hi => by simp only [dif_pos hi]; exact (key i hi).choose_spec⟩
  obtain ⟨g, hg⟩ := hch
  have hnd : ((List.range L.length).map g).Nodup := by
    rw [List.nodup_iff_pairwise_ne, List.pairwise_map]
    refine (List.nodup_iff_pairwise_ne.1 List.nodup_range).imp_of_mem (fun {a b} ha hb hne e => hne ?_)
    have ha := List.mem_range.1 ha
    have hb := List.mem_range.1 hb
    have h1 := ((hg a ha).2 a _ (List.getElem?_eq_getElem ha)).2 rfl
    rw [e] at h1
    exact ((hg b hb).2 a _ (List.getElem?_eq_getElem ha)).1 h1
  have hsub : (List.range L.length).map g ⊆ List.range (2 ^ k) := fun x hx => by
    obtain ⟨i, hi, rfl⟩ := List.mem_map.1 hx
    exact List.mem_range.2 (hg i (List.mem_range.1 hi)).1
  have := hnd.length_le_of_subset hsub
  simpa using this
/-- How much a cube's own cover costs. -/
def uN : Nat → Nat
  | 0 => 0
  | m + 1 => uN m + 8 * 2 ^ (m + 1)
def uC : Nat → Nat
  | 0 => 0
  | m + 1 => uC m + 12
theorem half_cube {c : List Int} {v : Nat} (h : c[v]? = some (-1)) (s so : Bool) : half (fun β => isB β 0 (c.set v (if s then 1 else 0))) v so = fun β => decide (so = s) && isB β 0 c := by
  funext β
  show isB (putB β v so) 0 (c.set v (if s then 1 else 0)) = _
  rw [isB_set h s, putB_eq, isB_put h]
theorem isB_sat {k : Nat} {c : List Int} (h : CubeR k c) : isB (fun v => decide (c[v]? = some 1)) 0 c = true := by
  rw [isB0]
  intro v x hx
  rcases h.2 x (List.mem_of_getElem? hx) with rfl | rfl | rfl
  · right; simp [hx]
  · right; simp [hx]
  · left; decide
theorem set_back {c : List Int} {v : Nat} {x : Int} (hx : c[v]? = some x) : (c.set v (-1)).set v x = c := by
  rw [List.set_set]
  apply List.ext_getElem?
  intro j
  by_cases ej : v = j
  · subst ej
    rw [List.getElem?_set_self (List.getElem?_eq_some_iff.1 hx).1, hx]
  · rw [List.getElem?_set_ne ej]
theorem cube_bt (k : Nat) : ∀ (m : Nat) (c : List Int), CubeR k c → (∀ w, w + m < k → c[w]? = some (-1)) → ∃ f n cc, Bt k (fun β => isB β 0 c) (fun β => isB β 0 c) [c] f n cc ∧ n ≤ uN m ∧ cc ≤ uC m := by
  intro m
  induction m with
  | zero =>
    intro c hc hw
    have e : c = List.replicate k (-1) := by
      apply List.ext_getElem?
      intro j
      rw [List.getElem?_replicate]
      split
      · exact hw j (by omega)
      · exact List.getElem?_eq_none (by rw [hc.1]; omega)
    have hall : ∀ β, isB β 0 c = true := fun β => (isB0 _ _).2 fun v x hx => by
      have hv : v < k := by have := (List.getElem?_eq_some_iff.1 hx).1; rw [hc.1] at this; exact this
      rw [hw v (by omega)] at hx
      simp only [Option.some.injEq] at hx
      left; omega
    refine ⟨fun _ => true, 0, 0, ?_, Nat.le_refl _, Nat.le_refl _⟩
    have := Bt.one (k := k) (fun β => isB β 0 c) (fun β => isB β 0 c) (fun _ => false) (hall _) hall
    rw [← e] at this
    exact this
  | succ m ih =>
    intro c hc hw
    have hskip : (∀ w, w + m < k → c[w]? = some (-1)) → ∃ f n cc, Bt k (fun β => isB β 0 c) (fun β => isB β 0 c) [c] f n cc ∧ n ≤ uN (m + 1) ∧ cc ≤ uC (m + 1) := fun h2 => by
      obtain ⟨f, n, cc, h3, h4, h5⟩ := ih c hc h2
      refine ⟨f, n, cc, h3, ?_, ?_⟩
      · show _ ≤ uN m + 8 * 2 ^ (m + 1); omega
      · show _ ≤ uC m + 12; omega
    rcases Nat.lt_or_ge k (m + 1) with hk | hk
    · exact hskip fun w h2 => absurd h2 (by omega)
    obtain ⟨v, hv⟩ : ∃ v, k - (m + 1) = v := ⟨_, rfl⟩
    have hvk : v < k := by omega
    obtain ⟨x, hx⟩ : ∃ x, c[v]? = some x := ⟨_, List.getElem?_eq_getElem (by rw [hc.1]; exact hvk)⟩
    by_cases hx1 : x = -1
    · subst hx1
      refine hskip fun w h2 => ?_
      by_cases e : w = v
      · subst e; exact hx
      · exact hw w (by omega)
    obtain ⟨s, hs⟩ : ∃ s : Bool, x = if s then 1 else 0 := by
      rcases hc.2 x (List.mem_of_getElem? hx) with rfl | rfl | rfl
      · exact ⟨false, rfl⟩
      · exact ⟨true, rfl⟩
      · exact absurd rfl hx1
    obtain ⟨d, hd⟩ : ∃ d, c.set v (-1) = d := ⟨_, rfl⟩
    have hdR : CubeR k d := by rw [← hd]; exact hc.set v (.inr (.inr rfl))
    have hdv : d[v]? = some (-1) := by rw [← hd]; exact List.getElem?_set_self (by rw [hc.1]; exact hvk)
    have hback : d.set v (if s then 1 else 0) = c := by rw [← hd, ← hs]; exact set_back hx
    obtain ⟨f, n, cc, h3, h4, h5⟩ := ih d hdR (fun w h2 => by
      by_cases e : w = v
      · subst e; exact hdv
      · rw [← hd, List.getElem?_set_ne (fun e2 => e e2.symm)]; exact hw w (by omega))
    have hf : ∀ β, f β = isB β 0 d := fun β => by
      have := h3.isop (fun _ h => h)
      rw [Bool.eq_iff_iff, this.eq]
      constructor
      · rintro ⟨e, he, h6⟩
        obtain rfl : e = d := by simpa using he
        exact h6
      · intro h6
        exact ⟨d, List.mem_singleton.2 rfl, h6⟩
    have hh : ∀ so, half (fun β => isB β 0 c) v so = fun β => decide (so = s) && isB β 0 d := fun so => by
      rw [← hback]; exact half_cube hdv s so
    have hsat := isB_sat hc
    have hno : isB (putB (fun v => decide (c[v]? = some 1)) v (!s)) 0 c = false := by
      have := congrFun (hh (!s)) (fun v => decide (c[v]? = some 1))
      have e : isB (putB (fun v => decide (c[v]? = some 1)) v (!s)) 0 c = (decide ((!s) = s) && isB (fun v => decide (c[v]? = some 1)) 0 d) := this
      rw [e]
      cases s <;> rfl
    have hyes : isB (putB (fun v => decide (c[v]? = some 1)) v s) 0 c = true := by
      have h6 := congrFun (hh s) (fun v => decide (c[v]? = some 1))
      have e6 : isB (putB (fun v => decide (c[v]? = some 1)) v s) 0 c = (decide (s = s) && isB (fun v => decide (c[v]? = some 1)) 0 d) := h6
      have h7 : isB (fun v => decide (c[v]? = some 1)) 0 d = true := by rw [← hd]; exact isB_wide v hsat
      rw [e6, h7]
      simp
    have hind : ∀ w, w < v → Ind (fun β => isB β 0 c) w ∧ Ind (fun β => isB β 0 c) w := fun w hw2 => by
      have : Ind (fun β => isB β 0 c) w := fun β so => isB_put (hw w (by omega)) so
      exact ⟨this, this⟩
    have hdep : ¬ (Ind (fun β => isB β 0 c) v ∧ Ind (fun β => isB β 0 c) v) := fun hi => by
      have e1 := hi.1 (fun v => decide (c[v]? = some 1)) s
      have e2 := hi.1 (fun v => decide (c[v]? = some 1)) (!s)
      have e3 : isB (putB (fun v => decide (c[v]? = some 1)) v s) 0 c = isB (putB (fun v => decide (c[v]? = some 1)) v (!s)) 0 c := e1.trans e2.symm
      rw [hyes, hno] at e3
      cases e3
    have hcost : 8 * 2 ^ (k - v) = 8 * 2 ^ (m + 1) := by rw [show k - v = m + 1 by omega]
    cases s with
    | true =>
      have h0 : ∀ β, half (fun β => isB β 0 c) v false β = false := fun β => by rw [hh false]; rfl
      have h1 : ∀ β, half (fun β => isB β 0 c) v true β = isB β 0 d := fun β => by rw [hh true]; simp
      have ba : Bt k (fun β => !half (fun β => isB β 0 c) v true β && half (fun β => isB β 0 c) v false β) (half (fun β => isB β 0 c) v false) [] (fun _ => false) 0 0 := Bt.zero _ _ fun β => by rw [h0, Bool.and_false]
      have eb : (fun β => !half (fun β => isB β 0 c) v false β && half (fun β => isB β 0 c) v true β) = fun β => isB β 0 d := by funext β; rw [h0, h1]; rfl
      have eb2 : half (fun β => isB β 0 c) v true = fun β => isB β 0 d := funext h1
      have bb : Bt k (fun β => !half (fun β => isB β 0 c) v false β && half (fun β => isB β 0 c) v true β) (half (fun β => isB β 0 c) v true) [d] f n cc := by rw [eb, eb2]; exact h3
      have bc : Bt k (fun β => (!(fun _ => false) β && half (fun β => isB β 0 c) v false β) || (!f β && half (fun β => isB β 0 c) v true β)) (fun β => half (fun β => isB β 0 c) v false β && half (fun β => isB β 0 c) v true β) [] (fun _ => false) 0 0 := Bt.zero _ _ fun β => by
        rw [h0, h1, hf]
        cases isB β 0 d <;> rfl
      have := Bt.step (k := k) (fun β => isB β 0 c) (fun β => isB β 0 c) v hvk _ hyes _ hno hind hdep [] [d] [] _ f _ 0 n 0 0 cc 0 ba bb bc
      have e : ([] : List (List Int)).map (fun c => c.set v 0) ++ [d].map (fun c => c.set v 1) ++ [] = [c] := by
        show [d.set v 1] = [c]
        rw [show d.set v 1 = d.set v (if true = true then 1 else 0) from rfl, hback]
      rw [e] at this
      refine ⟨_, _, _, this, ?_, ?_⟩
      · show _ ≤ uN m + 8 * 2 ^ (m + 1); omega
      · show _ ≤ uC m + 12; omega
    | false =>
      have h0 : ∀ β, half (fun β => isB β 0 c) v true β = false := fun β => by rw [hh true]; rfl
      have h1 : ∀ β, half (fun β => isB β 0 c) v false β = isB β 0 d := fun β => by rw [hh false]; simp
      have bb : Bt k (fun β => !half (fun β => isB β 0 c) v false β && half (fun β => isB β 0 c) v true β) (half (fun β => isB β 0 c) v true) [] (fun _ => false) 0 0 := Bt.zero _ _ fun β => by rw [h0, Bool.and_false]
      have ea : (fun β => !half (fun β => isB β 0 c) v true β && half (fun β => isB β 0 c) v false β) = fun β => isB β 0 d := by funext β; rw [h0, h1]; rfl
      have ea2 : half (fun β => isB β 0 c) v false = fun β => isB β 0 d := funext h1
      have ba : Bt k (fun β => !half (fun β => isB β 0 c) v true β && half (fun β => isB β 0 c) v false β) (half (fun β => isB β 0 c) v false) [d] f n cc := by rw [ea, ea2]; exact h3
      have bc : Bt k (fun β => (!f β && half (fun β => isB β 0 c) v false β) || (!(fun _ => false) β && half (fun β => isB β 0 c) v true β)) (fun β => half (fun β => isB β 0 c) v false β && half (fun β => isB β 0 c) v true β) [] (fun _ => false) 0 0 := Bt.zero _ _ fun β => by
        rw [h0, h1, hf]
        cases isB β 0 d <;> rfl
      have := Bt.step (k := k) (fun β => isB β 0 c) (fun β => isB β 0 c) v hvk _ hyes _ hno hind hdep [d] [] [] f _ _ n 0 0 cc 0 0 ba bb bc
      have e : [d].map (fun c => c.set v 0) ++ ([] : List (List Int)).map (fun c => c.set v 1) ++ [] = [c] := by
        show [d.set v 0] = [c]
        rw [show d.set v 0 = d.set v (if false = true then 1 else 0) from rfl, hback]
      rw [e] at this
      refine ⟨_, _, _, this, ?_, ?_⟩
      · show _ ≤ uN m + 8 * 2 ^ (m + 1); omega
      · show _ ≤ uC m + 12; omega
end Go.Proofs.Ytloidoekmicloaa
