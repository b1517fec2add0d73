/-
  A rule comes, and all that follows of it: as plain steps. No program in sight.
-/
import Derived.Test.YtaabmkebbnkonaaDoorRefPlain
set_option linter.unusedVariables false
set_option linter.unusedSimpArgs false
set_option linter.unnecessarySimpa false
namespace Go.Proofs.YtaabmkebbnkonaaDoor
open Go.ChangeShapes Go.WideShapes Go.ChangeAt Go.RowKit Go.Deep SetPlain
theorem listTo_iff (p : Nat → Bool) (x : Nat) : ∀ n, x ∈ listTo p n ↔ x < n ∧ p x = true
  | 0 => by
    unfold listTo
    constructor
    · intro h; cases h
    · rintro ⟨h, _⟩; omega
  | n + 1 => by
    unfold listTo
    by_cases h : p n = true
    · rw [if_pos h, List.mem_append, List.mem_singleton, listTo_iff p x n]
      constructor
      · rintro (⟨h1, h2⟩ | rfl)
        · exact ⟨by omega, h2⟩
        · exact ⟨by omega, h⟩
      · rintro ⟨h1, h2⟩
        by_cases e : x = n
        · exact .inr e
        · exact .inl ⟨by omega, h2⟩
    · rw [if_neg h, listTo_iff p x n]
      constructor
      · rintro ⟨h1, h2⟩; exact ⟨by omega, h2⟩
      · rintro ⟨h1, h2⟩
        by_cases e : x = n
        · subst e; exact absurd h2 h
        · exact ⟨by omega, h2⟩
theorem listTo_rises (p : Nat → Bool) : ∀ n, (listTo p n).Pairwise (· < ·)
  | 0 => List.Pairwise.nil
  | n + 1 => by
    unfold listTo
    split
    · rw [List.pairwise_append]
      refine ⟨listTo_rises p n, List.pairwise_singleton _ _, fun a ha b hb => ?_⟩
      rw [List.mem_singleton] at hb
      subst hb
      exact ((listTo_iff p a _).1 ha).1
    · exact listTo_rises p n
/-- Who follow at once by a rule, in the order in which they come. -/
def bringsL (P K : Nat) (r : Rl) (In : Nat → Nat → Bool) : List Nat :=
  if r.kind = 1 then [r.who.toNat] else if r.kind = 2 then listTo (In r.a.toNat) P
  else if r.kind = 4 then (listTo (In r.a.toNat) P).filter (fun c => In r.b.toNat c)
  else (listTo (In r.a.toNat) P).flatMap (fun x => listTo (In (x * K + r.via.toNat)) P)
theorem brings_iff {P K : Nat} {r : Rl} {In : Nat → Nat → Bool} (hR : rightB P K r = true) (c : Nat) : c ∈ bringsL P K r In ↔ c < P ∧ prem P K r In c = true := by
  obtain ⟨_, hk⟩ := right_iff hR
  unfold bringsL prem
  rcases hk with ⟨e, h0, h1⟩ | ⟨e, _⟩ | ⟨e, _⟩ | ⟨e, _⟩
  · rw [if_pos e, if_pos e, List.mem_singleton]
    constructor
    · rintro rfl; exact ⟨by omega, decide_eq_true (by omega)⟩
    · rintro ⟨_, h⟩; have := of_decide_eq_true h; omega
  · rw [if_neg (by omega), if_pos e, if_neg (by omega), if_pos e, listTo_iff]
  · rw [if_neg (by omega), if_neg (by omega), if_neg (by omega), if_neg (by omega), if_neg (by omega), if_pos e, List.mem_flatMap, anyIn_iff]
    constructor
    · rintro ⟨x, hx, hc⟩
      rw [listTo_iff] at hx hc
      exact ⟨hc.1, x, hx.1, hx.2, hc.2⟩
    · rintro ⟨hc, x, hx, h1, h2⟩
      exact ⟨x, (listTo_iff _ _ _).2 ⟨hx, h1⟩, (listTo_iff _ _ _).2 ⟨hc, h2⟩⟩
  · rw [if_neg (by omega), if_neg (by omega), if_pos e, if_neg (by omega), if_neg (by omega), if_neg (by omega), List.mem_filter, listTo_iff, Bool.and_eq_true, and_assoc]
/-- One who comes, if he is new. -/
def addStep (N P h : Nat) (s : (Nat → Nat → Bool) × List Nat) (c : Nat) : (Nat → Nat → Bool) × List Nat :=
  if addB N P s.1 h c = true then (addIn N P s.1 h c, s.2 ++ [c]) else s
def adds (N P h : Nat) (s : (Nat → Nat → Bool) × List Nat) (l : List Nat) : (Nat → Nat → Bool) × List Nat := l.foldl (addStep N P h) s
theorem adds_take_succ {N P h : Nat} {s : (Nat → Nat → Bool) × List Nat} {l : List Nat} {j c : Nat} (hc : l[j]? = some c) : adds N P h s (l.take (j + 1)) = addStep N P h (adds N P h s (l.take j)) c := by
  unfold adds
  rw [List.take_add_one, hc, List.foldl_append]
  rfl
theorem hasB_in {N P : Nat} {In : Nat → Nat → Bool} {i c : Nat} (hi : i < N) (hc : c < P) : hasB N P In i c = In i c := by
  unfold hasB rowP
  rw [decide_eq_true (by omega), if_pos (by omega), Bool.true_and]
  simp
theorem addB_nat {N P : Nat} {In : Nat → Nat → Bool} {i c : Nat} (hi : i < N) (hc : c < P) : addB N P In i c = !In i c := by
  unfold addB
  rw [hasB_in hi hc, decide_eq_true (by omega), Bool.true_and]
/-- Where so many have come. -/
structure AddI (N P h : Nat) (In : Nat → Nat → Bool) (done : List Nat) (s : (Nat → Nat → Bool) × List Nat) : Prop where
  mem : ∀ i c, s.1 i c = true ↔ In i c = true ∨ (i = h ∧ c ∈ done)
  nodup : s.2.Nodup
  news : ∀ c, c ∈ s.2 ↔ c ∈ done ∧ In h c = false
  tot : totIn P N s.1 = totIn P N In + s.2.length
theorem AddI.step {N P h : Nat} {In : Nat → Nat → Bool} {done : List Nat} {s : (Nat → Nat → Bool) × List Nat} (hI : AddI N P h In done s) (hh : h < N) {c : Nat} (hc : c < P) : AddI N P h In (done ++ [c]) (addStep N P h s c) := by
  unfold addStep
  rw [addB_nat hh hc]
  cases hs : s.1 h c with
  | true =>
    rw [Bool.not_true, if_neg (by decide)]
    have h1 := (hI.mem h c).1 hs
    refine ⟨fun i c' => ?_, hI.nodup, fun c' => ?_, hI.tot⟩
    · rw [hI.mem, List.mem_append, List.mem_singleton]
      constructor
      · rintro (h | ⟨h, h2⟩)
        · exact .inl h
        · exact .inr ⟨h, .inl h2⟩
      · rintro (h | ⟨rfl, h2 | rfl⟩)
        · exact .inl h
        · exact .inr ⟨rfl, h2⟩
        · exact h1
    · rw [hI.news, List.mem_append, List.mem_singleton]
      constructor
      · rintro ⟨h, h2⟩; exact ⟨.inl h, h2⟩
      · rintro ⟨h | rfl, h2⟩
        · exact ⟨h, h2⟩
        · rcases h1 with h1 | h1
          · rw [h1] at h2; cases h2
          · exact ⟨h1.2, h2⟩
  | false =>
    rw [Bool.not_false, if_pos rfl]
    have ha : addIn N P s.1 h c = setIn s.1 h c := by
      unfold addIn
      rw [addB_nat hh hc, hs, Bool.not_false, if_pos rfl, show ((h : Nat) : Int).toNat = h from by omega, show ((c : Nat) : Int).toNat = c from by omega]
      funext i c'
      unfold updIn setIn upd
      by_cases e : i = h
      · subst e; simp
      · rw [if_neg e]; simp [e]
    rw [ha]
    have h0 : ¬ (In h c = true ∨ (h = h ∧ c ∈ done)) := fun h1 => by
      have := (hI.mem h c).2 h1
      rw [hs] at this
      cases this
    have hn : c ∉ s.2 := fun h2 => h0 (.inr ⟨rfl, ((hI.news c).1 h2).1⟩)
    refine ⟨fun i c' => ?_, ?_, fun c' => ?_, ?_⟩
    · show setIn s.1 h c i c' = true ↔ _
      unfold setIn
      rw [Bool.or_eq_true, Bool.and_eq_true, decide_eq_true_eq, decide_eq_true_eq, hI.mem, List.mem_append, List.mem_singleton]
      constructor
      · rintro (⟨rfl, rfl⟩ | h1 | ⟨h1, h2⟩)
        · exact .inr ⟨rfl, .inr rfl⟩
        · exact .inl h1
        · exact .inr ⟨h1, .inl h2⟩
      · rintro (h1 | ⟨h1, h2 | h2⟩)
        · exact .inr (.inl h1)
        · exact .inr (.inr ⟨h1, h2⟩)
        · exact .inl ⟨h1, h2⟩
    · rw [List.nodup_append]
      refine ⟨hI.nodup, by simp, fun x hx b hb e => ?_⟩
      rw [List.mem_singleton] at hb
      subst e
      subst hb
      exact hn hx
    · rw [List.mem_append, List.mem_singleton, List.mem_append, List.mem_singleton, hI.news]
      constructor
      · rintro (⟨h1, h2⟩ | rfl)
        · exact ⟨.inl h1, h2⟩
        · refine ⟨.inr rfl, ?_⟩
          cases e : In h c' with
          | false => rfl
          | true => exact absurd (.inl e) h0
      · rintro ⟨h1 | h1, h2⟩
        · exact .inl ⟨h1, h2⟩
        · exact .inr h1
    · show totIn P N (setIn s.1 h c) = _
      rw [totIn_set hh hc hs, hI.tot, List.length_append]
      rfl
theorem AddI.all {N P h : Nat} {In : Nat → Nat → Bool} (hh : h < N) : ∀ (l done : List Nat) (s : (Nat → Nat → Bool) × List Nat), AddI N P h In done s → (∀ c ∈ l, c < P) → AddI N P h In (done ++ l) (adds N P h s l)
  | [], done, s, hI, _ => by rw [List.append_nil]; exact hI
  | c :: l, done, s, hI, hl => by
    have := AddI.all hh l (done ++ [c]) (addStep N P h s c) (hI.step hh (hl c (by simp))) (fun x hx => hl x (List.mem_cons_of_mem _ hx))
    rw [List.append_assoc] at this
    exact this
theorem adds_spec {N P h : Nat} (In : Nat → Nat → Bool) (hh : h < N) (l : List Nat) (hl : ∀ c ∈ l, c < P) : AddI N P h In l (adds N P h (In, []) l) := by
  have := AddI.all hh l [] (In, []) ⟨fun i c => by simp, List.nodup_nil, fun c => by simp, rfl⟩ hl
  exact this
/-- Does a rule look at a role? -/
def looksB (K : Nat) (x : Rl) (h : Nat) : Bool :=
  if x.kind = 2 then decide (x.a = h) else if x.kind = 4 then decide (x.a = h) || decide (x.b = h) else if x.kind = 3 then decide (x.a = h) || decide (((h % K : Nat) : Int) = x.via) else false
def pickStep (K h : Nat) (t : List Rl) (x : Rl) : List Rl := if (looksB K x h && !decide (x ∈ t)) = true then t ++ [x] else t
def pick (K h : Nat) (t rs : List Rl) : List Rl := rs.foldl (pickStep K h) t
theorem pick_take_succ {K h : Nat} {t rs : List Rl} {j : Nat} {x : Rl} (hx : rs[j]? = some x) : pick K h t (rs.take (j + 1)) = pickStep K h (pick K h t (rs.take j)) x := by
  unfold pick
  rw [List.take_add_one, hx, List.foldl_append]
  rfl
theorem pickStep_sub (K h : Nat) (t : List Rl) (x y : Rl) (hy : y ∈ t) : y ∈ pickStep K h t x := by
  unfold pickStep
  split
  · exact List.mem_append_left _ hy
  · exact hy
theorem pick_sub (K h : Nat) : ∀ (rs t : List Rl) (y : Rl), y ∈ t → y ∈ pick K h t rs
  | [], t, y, hy => hy
  | x :: rs, t, y, hy => pick_sub K h rs _ y (pickStep_sub K h t x y hy)
theorem pick_from (K h : Nat) : ∀ (rs t : List Rl) (y : Rl), y ∈ pick K h t rs → y ∈ t ∨ y ∈ rs
  | [], t, y, hy => .inl hy
  | x :: rs, t, y, hy => by
    rcases pick_from K h rs _ y hy with h1 | h1
    · unfold pickStep at h1
      split at h1
      · rcases List.mem_append.1 h1 with h2 | h2
        · exact .inl h2
        · rw [List.mem_singleton] at h2; subst h2; exact .inr (by simp)
      · exact .inl h1
    · exact .inr (List.mem_cons_of_mem _ h1)
theorem pick_has (K h : Nat) : ∀ (rs t : List Rl) (y : Rl), y ∈ rs → looksB K y h = true → y ∈ pick K h t rs
  | x :: rs, t, y, hy, hl => by
    rcases List.mem_cons.1 hy with rfl | hy
    · refine pick_sub K h rs _ _ ?_
      unfold pickStep
      split
      · simp
      · rename_i h1
        rw [hl, Bool.true_and] at h1
        have h2 : decide (y ∈ t) = true := by
          cases hd : decide (y ∈ t) with
          | true => rfl
          | false => rw [hd] at h1; exact absurd rfl h1
        exact of_decide_eq_true h2
    · exact pick_has K h rs _ y hy hl
theorem pick_len (K h : Nat) : ∀ (rs t : List Rl), (pick K h t rs).length ≤ t.length + rs.length
  | [], t => Nat.le_refl _
  | x :: rs, t => by
    have := pick_len K h rs (pickStep K h t x)
    have h2 : (pickStep K h t x).length ≤ t.length + 1 := by
      unfold pickStep
      split
      · simp
      · omega
    show (pick K h (pickStep K h t x) rs).length ≤ t.length + (rs.length + 1)
    omega
/-- A rule that looks at another role has the same followers. -/
theorem prem_other {P K : Nat} {x : Rl} {In In' : Nat → Nat → Bool} {h : Nat} (hR : rightB P K x = true) (hl : looksB K x h = false) (he : ∀ i c, i ≠ h → In' i c = In i c) {c : Nat} (hc : c < P) : prem P K x In' c = prem P K x In c := by
  obtain ⟨_, hk⟩ := right_iff hR
  unfold looksB at hl
  unfold prem
  rcases hk with ⟨e, _⟩ | ⟨e, h0, _⟩ | ⟨e, h0, _, v0, v1⟩ | ⟨e, h0, _, b0, _⟩
  · rw [if_pos e, if_pos e]
  · rw [if_pos e] at hl
    rw [if_neg (by omega), if_pos e, if_neg (by omega), if_pos e]
    exact he _ _ (by have := of_decide_eq_false hl; omega)
  · rw [if_neg (by omega), if_neg (by omega), if_pos e, Bool.or_eq_false_iff] at hl
    have l1 := of_decide_eq_false hl.1
    have l2 := of_decide_eq_false hl.2
    have hK : 0 < K := by omega
    rw [if_neg (by omega), if_neg (by omega), if_pos e, if_neg (by omega), if_neg (by omega), if_pos e]
    rw [Bool.eq_iff_iff, anyIn_iff, anyIn_iff]
    have e1 : ∀ y, In' x.a.toNat y = In x.a.toNat y := fun y => he _ _ (by omega)
    have e2 : ∀ y, In' (y * K + x.via.toNat) c = In (y * K + x.via.toNat) c := fun y => he _ _ (by
      intro e3
      apply l2
      rw [← e3]
      rw [Nat.mul_comm, Nat.mul_add_mod, Nat.mod_eq_of_lt (by omega)]
      omega)
    simp only [e1, e2]
  · rw [if_neg (by omega), if_pos e, Bool.or_eq_false_iff] at hl
    have l1 := of_decide_eq_false hl.1
    have l2 := of_decide_eq_false hl.2
    rw [if_neg (by omega), if_neg (by omega), if_neg (by omega), if_neg (by omega), if_neg (by omega), if_neg (by omega)]
    rw [he _ _ (by omega), he _ _ (by omega)]
/-- Where the following of a rule stands: who was in, who is in now, the rules yet to be looked at, who is new. -/
structure FlI (P K : Nat) (rs : List Rl) (In0 In : Nat → Nat → Bool) (todo : List Rl) (out : List (Nat × Nat)) : Prop where
  snd : SndIn P K rs In
  sub : ∀ i c, In0 i c = true → In i c = true
  nodup : out.Nodup
  mem : ∀ i c, (i, c) ∈ out ↔ In i c = true ∧ In0 i c = false
  open_ : ∀ x ∈ rs, x ∉ todo → ∀ c, c < P → prem P K x In c = true → In x.head.toNat c = true
  tsub : ∀ x ∈ todo, x ∈ rs
theorem FlI.start {P K : Nat} {rs : List Rl} {r : Rl} {In : Nat → Nat → Bool} (hrs : ∀ x ∈ rs, rightB P K x = true) (hIn : ∀ i c, In i c = true ↔ i < P * K ∧ c < P ∧ Der K rs i c) : FlI P K (rs ++ [r]) In In [r] [] := by
  have hs : SndIn P K rs In := fun i c h => (hIn i c).1 h
  refine ⟨fun i c h => ?_, fun i c h => h, List.nodup_nil, fun i c => ?_, fun x hx hn c hc hp => ?_, fun x hx => ?_⟩
  · obtain ⟨h1, h2, h3⟩ := (hIn i c).1 h
    exact ⟨h1, h2, h3.mono fun r hr => List.mem_append_left _ hr⟩
  · constructor
    · intro h; cases h
    · rintro ⟨h1, h2⟩; rw [h1] at h2; cases h2
  · have hx' : x ∈ rs := by
      rcases List.mem_append.1 hx with h | h
      · exact h
      · exact absurd h hn
    exact (hIn _ _).2 ⟨head_lt (hrs x hx'), hc, prem_der (hrs x hx') hx' hs hc hp⟩
  · rw [List.mem_singleton] at hx; subst hx; simp
theorem FlI.step {P K : Nat} {rs : List Rl} {In0 In : Nat → Nat → Bool} {next : Rl} {todo : List Rl} {out : List (Nat × Nat)} (hrs : ∀ x ∈ rs, rightB P K x = true) (h : FlI P K rs In0 In (next :: todo) out) :
    FlI P K rs In0 (adds (P * K) P next.head.toNat (In, []) (bringsL P K next In)).1
      (if (adds (P * K) P next.head.toNat (In, []) (bringsL P K next In)).2 = [] then todo else pick K next.head.toNat todo rs)
      (out ++ (adds (P * K) P next.head.toNat (In, []) (bringsL P K next In)).2.map fun c => (next.head.toNat, c)) := by
  have hn : next ∈ rs := h.tsub next (by simp)
  have hR := hrs next hn
  have hA := adds_spec (N := P * K) (P := P) In (head_lt hR) (bringsL P K next In) (fun c hc => ((brings_iff hR c).1 hc).1)
  generalize (adds (P * K) P next.head.toNat (In, []) (bringsL P K next In)) = s at hA
  obtain ⟨In2, news⟩ := s
  simp only [] at hA ⊢
  have hoth : ∀ i c, i ≠ next.head.toNat → In2 i c = In i c := fun i c hi => by
    rw [Bool.eq_iff_iff, hA.mem]
    constructor
    · rintro (h | h)
      · exact h
      · exact absurd h.1 hi
    · exact .inl
  have hsub2 : ∀ i c, In i c = true → In2 i c = true := fun i c hi => (hA.mem i c).2 (.inl hi)
  refine ⟨fun i c hi => ?_, fun i c hi => hsub2 _ _ (h.sub i c hi), ?_, fun i c => ?_, fun x hx hxt c hc hp => ?_, fun x hx => ?_⟩
  · rcases (hA.mem i c).1 hi with h1 | ⟨rfl, h1⟩
    · exact h.snd i c h1
    · obtain ⟨hc, hp⟩ := (brings_iff hR c).1 h1
      exact ⟨head_lt hR, hc, prem_der hR hn h.snd hc hp⟩
  · rw [List.nodup_append]
    refine ⟨h.nodup, ?_, ?_⟩
    · exact List.Pairwise.map (fun c => (next.head.toNat, c)) (fun a b (hab : a ≠ b) e => hab (by simpa using e)) hA.nodup
    · intro a ha b hb e
      subst e
      obtain ⟨c, hc, rfl⟩ := List.mem_map.1 hb
      have h1 := (h.mem _ _).1 ha
      have h2 := (hA.news c).1 hc
      rw [h1.1] at h2
      cases h2.2
  · rw [List.mem_append, h.mem, hA.mem]
    constructor
    · rintro (⟨h1, h2⟩ | h1)
      · exact ⟨.inl h1, h2⟩
      · obtain ⟨c', hc', e⟩ := List.mem_map.1 h1
        simp only [Prod.mk.injEq] at e
        obtain ⟨rfl, rfl⟩ := e
        obtain ⟨h3, h4⟩ := (hA.news c').1 hc'
        refine ⟨.inr ⟨rfl, h3⟩, ?_⟩
        cases e0 : In0 next.head.toNat c' with
        | false => rfl
        | true => rw [h.sub _ _ e0] at h4; cases h4
    · rintro ⟨h1 | ⟨rfl, h1⟩, h2⟩
      · exact .inl ⟨h1, h2⟩
      · cases e0 : In next.head.toNat c with
        | true => exact .inl ⟨rfl, h2⟩
        | false => exact .inr (List.mem_map.2 ⟨c, (hA.news c).2 ⟨h1, e0⟩, rfl⟩)
  · by_cases hz : news = []
    · subst hz
      rw [if_pos rfl] at hxt
      have hsame : ∀ i c, In2 i c = In i c := fun i c => by
        rw [Bool.eq_iff_iff, hA.mem]
        constructor
        · rintro (h1 | ⟨rfl, h1⟩)
          · exact h1
          · cases e0 : In next.head.toNat c with
            | true => rfl
            | false => have := (hA.news c).2 ⟨h1, e0⟩; cases this
        · exact .inl
      have e2 : In2 = In := by funext i c; exact hsame i c
      subst e2
      by_cases hxn : x = next
      · subst hxn
        refine (hA.mem _ _).2 (.inr ⟨rfl, (brings_iff hR c).2 ⟨hc, hp⟩⟩)
      · exact h.open_ x hx (fun h1 => by rcases List.mem_cons.1 h1 with h1 | h1; exact hxn h1; exact hxt h1) c hc hp
    · rw [if_neg hz] at hxt
      have hl : looksB K x next.head.toNat = false := by
        cases e0 : looksB K x next.head.toNat with
        | false => rfl
        | true => exact absurd (pick_has K _ rs todo x hx e0) hxt
      have hp2 : prem P K x In c = true := by rw [← prem_other (hrs x hx) hl hoth hc]; exact hp
      by_cases hxn : x = next
      · subst hxn
        exact (hA.mem _ _).2 (.inr ⟨rfl, (brings_iff hR c).2 ⟨hc, hp2⟩⟩)
      · exact hsub2 _ _ (h.open_ x hx (fun h1 => by rcases List.mem_cons.1 h1 with h1 | h1; exact hxn h1; exact hxt (pick_sub K _ rs todo x h1)) c hc hp2)
  · split at hx
    · exact h.tsub x (List.mem_cons_of_mem _ hx)
    · rcases pick_from K _ rs todo x hx with h1 | h1
      · exact h.tsub x (List.mem_cons_of_mem _ h1)
      · exact h1
/-- How much is yet to be done, at most. -/
def flM (P K n : Nat) (In : Nat → Nat → Bool) (todo : List Rl) : Nat := (P * (P * K) - totIn P (P * K) In) * (n + 1) + todo.length
theorem FlI.down {P K : Nat} {rs : List Rl} {In0 In : Nat → Nat → Bool} {next : Rl} {todo : List Rl} {out : List (Nat × Nat)} (hrs : ∀ x ∈ rs, rightB P K x = true) (h : FlI P K rs In0 In (next :: todo) out) :
    flM P K rs.length (adds (P * K) P next.head.toNat (In, []) (bringsL P K next In)).1
      (if (adds (P * K) P next.head.toNat (In, []) (bringsL P K next In)).2 = [] then todo else pick K next.head.toNat todo rs) < flM P K rs.length In (next :: todo) := by
  have hn : next ∈ rs := h.tsub next (by simp)
  have hR := hrs next hn
  have hA := adds_spec (N := P * K) (P := P) In (head_lt hR) (bringsL P K next In) (fun c hc => ((brings_iff hR c).1 hc).1)
  generalize (adds (P * K) P next.head.toNat (In, []) (bringsL P K next In)) = s at hA
  obtain ⟨In2, news⟩ := s
  simp only [] at hA ⊢
  have ht := hA.tot
  simp only [] at ht
  have hle := totIn_le P (P * K) In2
  unfold flM
  rw [List.length_cons]
  by_cases hz : news = []
  · subst hz
    rw [if_pos rfl, ht]
    simp
  · rw [if_neg hz]
    have h1 : 0 < news.length := List.length_pos_iff.2 hz
    have h2 := pick_len K next.head.toNat rs todo
    have h3 : P * (P * K) - totIn P (P * K) In2 + 1 ≤ P * (P * K) - totIn P (P * K) In := by omega
    have h4 := Nat.mul_le_mul_right (rs.length + 1) h3
    rw [Nat.add_mul] at h4
    omega
theorem FlI.done {P K : Nat} {rs : List Rl} {In0 In : Nat → Nat → Bool} {out : List (Nat × Nat)} (hrs : ∀ x ∈ rs, rightB P K x = true) (h : FlI P K rs In0 In [] out) (i c : Nat) : In i c = true ↔ i < P * K ∧ c < P ∧ Der K rs i c := by
  constructor
  · exact fun hi => h.snd i c hi
  · rintro ⟨_, _, d⟩
    exact closed_all hrs (fun r hr c hc hp => h.open_ r hr (by simp) c hc hp) (fun i c hi => (h.snd i c hi).2.1) d
end Go.Proofs.YtaabmkebbnkonaaDoor
