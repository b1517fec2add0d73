/-
  Rules and what follows of them: the maker of a model as plain steps. No program in sight.
-/
import Derived.Test.YtahnedkdodjomaaMA
import Derived.Deep.RegionWith
import Derived.Deep.RegionHeld3
import Derived.Shelf.Spec.TrailingZeros
set_option linter.unusedVariables false
set_option linter.unusedSimpArgs false
set_option linter.unnecessarySimpa false
namespace Go.Proofs.Ytahnedkdodjomaa
open Go.ChangeShapes Go.WideShapes Go.ChangeAt Go.RowKit Go.Deep SetPlain

def roleB (p k : Int) (i : Int) : Bool := decide (0 ≤ i ∧ i < p * k)
/-- May a rule be? -/
def rightB (p k : Int) (r : Rl) : Bool :=
  decide (0 ≤ p ∧ 0 ≤ k ∧ p ≤ 1000 ∧ k ≤ 1000) && (roleB p k r.head &&
    (if r.kind = 1 then decide (r.a = 0 ∧ r.b = 0 ∧ r.via = 0) && decide (0 ≤ r.who ∧ r.who < p)
     else if r.kind = 4 then roleB p k r.b && (decide (r.who = 0 ∧ r.via = 0) && roleB p k r.a)
     else if r.kind = 2 then decide (r.who = 0 ∧ r.b = 0 ∧ r.via = 0) && roleB p k r.a
     else if r.kind = 3 then decide (r.who = 0 ∧ r.b = 0) && (roleB p k r.a && decide (0 ≤ r.via ∧ r.via < k))
     else false))
/-- What a rule that may be is like. -/
theorem right_iff {P K : Nat} {r : Rl} (h : rightB P K r = true) :
    (0 ≤ r.head ∧ r.head < ((P * K : Nat) : Int)) ∧
    ((r.kind = 1 ∧ 0 ≤ r.who ∧ r.who < P) ∨ (r.kind = 2 ∧ 0 ≤ r.a ∧ r.a < ((P * K : Nat) : Int)) ∨ (r.kind = 3 ∧ 0 ≤ r.a ∧ r.a < ((P * K : Nat) : Int) ∧ 0 ≤ r.via ∧ r.via < K) ∨
      (r.kind = 4 ∧ 0 ≤ r.a ∧ r.a < ((P * K : Nat) : Int) ∧ 0 ≤ r.b ∧ r.b < ((P * K : Nat) : Int))) := by
  unfold rightB roleB at h
  rw [Bool.and_eq_true, Bool.and_eq_true] at h
  obtain ⟨_, h1, h2⟩ := h
  have e : (P : Int) * (K : Int) = ((P * K : Nat) : Int) := by simp
  rw [e] at h1 h2
  refine ⟨by simpa using h1, ?_⟩
  split at h2
  · simp at h2; exact .inl ⟨by assumption, h2.2.1, h2.2.2⟩
  split at h2
  · simp at h2; exact .inr (.inr (.inr ⟨by assumption, by simpa using h2.2.2.1, by simpa using h2.2.2.2, by simpa using h2.1.1, by simpa using h2.1.2⟩))
  split at h2
  · simp at h2; exact .inr (.inl ⟨by assumption, by simpa using h2.2.1, by simpa using h2.2.2⟩)
  split at h2
  · simp at h2; exact .inr (.inr (.inl ⟨by assumption, by simpa using h2.2.1.1, by simpa using h2.2.1.2, h2.2.2.1, h2.2.2.2⟩))
  · cases h2

/-- A maker's state: who is in, how many facts, how many steps, what is to be looked at yet. -/
structure St where
  In : Nat → Nat → Bool
  tot : Nat
  steps : Nat
  q : List (Nat × Nat)
def St.tick (s : St) : St := ⟨s.In, s.tot, s.steps + 1, s.q⟩
def St.add (N P : Nat) (s : St) (role who : Nat) : St :=
  if addB N P s.In role who = true then ⟨addIn N P s.In role who, addTot N P s.In role who s.tot, s.steps + 1, s.q ++ [(role, who)]⟩ else s.tick
def St.addAll (N P : Nat) (dst : Nat) : List Nat → St → St
  | [], s => s
  | x :: l, s => St.addAll N P dst l (s.add N P dst x)
def St.all (N P : Nat) (s : St) (src dst : Nat) : St := St.addAll N P dst (listTo (s.In src) P) s
/-- One rule by one role's fact. -/
def St.by1 (N P K : Nat) (f : Nat × Nat) (s : St) (r : Rl) : St :=
  if r.kind = 2 then s.tick.add N P r.head.toNat f.2
  else if r.kind = 3 then s.tick.all N P (f.2 * K + r.via.toNat) r.head.toNat
  else if r.kind = 4 then if s.In r.a.toNat f.2 && s.In r.b.toNat f.2 then s.tick.add N P r.head.toNat f.2 else s.tick
  else s.tick
def St.via1 (N P K : Nat) (f : Nat × Nat) (s : St) (r : Rl) : St :=
  if s.In r.a.toNat (f.1 / K) then s.tick.add N P r.head.toNat f.2 else s.tick
def St.byL (N P K : Nat) (f : Nat × Nat) : List Rl → St → St
  | [], s => s
  | r :: l, s => St.byL N P K f l (s.by1 N P K f r)
def St.viaL (N P K : Nat) (f : Nat × Nat) : List Rl → St → St
  | [], s => s
  | r :: l, s => St.viaL N P K f l (s.via1 N P K f r)
def St.look (N P K : Nat) (L : Nat → List Rl) (s : St) (f : Nat × Nat) : St := St.viaL N P K f (L (N + f.1 % K)) (St.byL N P K f (L f.1) s)
def St.put (N P : Nat) (s : St) (r : Rl) : St := if r.kind = 1 then s.tick.add N P r.head.toNat r.who.toNat else s.tick
def St.putL (N P : Nat) : List Rl → St → St
  | [], s => s
  | r :: l, s => St.putL N P l (s.put N P r)
def St.zero : St := ⟨fun _ _ => false, 0, 0, []⟩
/-- Is a rule kept in a row? -/
def keepB (N : Nat) (r : Rl) (i : Nat) : Bool :=
  if i < N then (decide (r.kind = 2 ∨ r.kind = 3 ∨ r.kind = 4) && decide (r.a = i)) || (decide (r.kind = 4) && decide (r.b = i)) else decide (r.kind = 3) && decide (r.via + N = i)
def putRow (N : Nat) (r : Rl) (L : Nat → List Rl) : Nat → List Rl := fun i => if keepB N r i = true then L i ++ [r] else L i
def keptL (N : Nat) (rs : List Rl) : Nat → List Rl := fun i => rs.filter (fun r => keepB N r i)
theorem keptL_snoc (N : Nat) (rs : List Rl) (r : Rl) : keptL N (rs ++ [r]) = putRow N r (keptL N rs) := by
  funext i
  unfold keptL putRow
  rw [List.filter_append]
  by_cases h : keepB N r i = true
  · rw [if_pos h]; simp [h]
  · rw [if_neg h]; simp [h]
theorem keptL_len (N : Nat) (rs : List Rl) (i : Nat) : (keptL N rs i).length ≤ rs.length := List.length_filter_le _ _

/-- What follows of rules. -/
inductive Der (K : Nat) (rs : List Rl) : Nat → Nat → Prop
  | mem (r : Rl) : r ∈ rs → r.kind = 1 → Der K rs r.head.toNat r.who.toNat
  | incl (r : Rl) (c : Nat) : r ∈ rs → r.kind = 2 → Der K rs r.a.toNat c → Der K rs r.head.toNat c
  | link (r : Rl) (x c : Nat) : r ∈ rs → r.kind = 3 → Der K rs r.a.toNat x → Der K rs (x * K + r.via.toNat) c → Der K rs r.head.toNat c
  | both (r : Rl) (c : Nat) : r ∈ rs → r.kind = 4 → Der K rs r.a.toNat c → Der K rs r.b.toNat c → Der K rs r.head.toNat c
theorem Der.mono {K : Nat} {rs ss : List Rl} (h : ∀ r, r ∈ rs → r ∈ ss) {i c : Nat} (d : Der K rs i c) : Der K ss i c := by
  induction d with
  | mem r h1 h2 => exact .mem r (h r h1) h2
  | incl r c h1 h2 _ i1 => exact .incl r c (h r h1) h2 i1
  | link r x c h1 h2 _ _ i1 i2 => exact .link r x c (h r h1) h2 i1 i2
  | both r c h1 h2 _ _ i1 i2 => exact .both r c (h r h1) h2 i1 i2

/-- One state behind another. -/
structure Ext (s t : St) : Prop where
  steps : s.steps ≤ t.steps
  tot : s.tot ≤ t.tot
  len : s.q.length ≤ t.q.length
  bal : s.tot + t.q.length = t.tot + s.q.length
  mono : ∀ i c, s.In i c = true → t.In i c = true
  new : ∀ i c, t.In i c = true → s.In i c = true ∨ (i, c) ∈ t.q
  sub : ∀ f, f ∈ s.q → f ∈ t.q
theorem Ext.refl (s : St) : Ext s s := ⟨Nat.le_refl _, Nat.le_refl _, Nat.le_refl _, rfl, fun _ _ h => h, fun _ _ h => .inl h, fun _ h => h⟩
theorem Ext.trans {s t u : St} (h : Ext s t) (k : Ext t u) : Ext s u :=
  ⟨Nat.le_trans h.steps k.steps, Nat.le_trans h.tot k.tot, Nat.le_trans h.len k.len, by have := h.bal; have := k.bal; omega, fun i c x => k.mono i c (h.mono i c x),
    fun i c x => (k.new i c x).elim (fun y => (h.new i c y).imp id (k.sub _)) .inr, fun f x => k.sub f (h.sub f x)⟩
theorem Ext.tick (s : St) : Ext s s.tick := ⟨Nat.le_succ _, Nat.le_refl _, Nat.le_refl _, rfl, fun _ _ h => h, fun _ _ h => .inl h, fun _ h => h⟩
/-- All in a state follows, lies where it may, and is counted. -/
structure Good (N P K : Nat) (rs : List Rl) (s : St) : Prop where
  snd : ∀ i c, s.In i c = true → Der K rs i c
  out : ∀ i c, s.In i c = true → i < N ∧ c < P
  que : ∀ f, f ∈ s.q → s.In f.1 f.2 = true
  tot : s.tot = sumTo (fun a => cnt (s.In a) P) N
section
variable {N P K : Nat} {rs : List Rl} {s : St}
theorem Good.tick (h : Good N P K rs s) : Good N P K rs s.tick := ⟨h.snd, h.out, h.que, h.tot⟩
theorem Good.zero : Good N P K rs St.zero := ⟨fun _ _ h => (by cases h), fun _ _ h => (by cases h), fun _ h => (by cases h), by
  show 0 = sumTo (fun a => cnt (fun _ => false) P) N
  have : ∀ n, sumTo (fun a => cnt (fun _ => false) P) n = 0 := fun n => by
    induction n with
    | zero => rfl
    | succ n ih => show sumTo _ n + cnt (fun _ => false) P = 0; rw [ih, cnt_none _ _ (fun _ _ => rfl)]
  exact (this N).symm⟩
theorem Good.tot_le (h : Good N P K rs s) : s.tot ≤ P * N := by
  rw [h.tot]
  exact sumTo_le (fun a => cnt_le _ _) N
theorem St.add_good (h : Good N P K rs s) {role who : Nat} (hd : Der K rs role who) :
    Good N P K rs (s.add N P role who) ∧ Ext s (s.add N P role who) ∧ (s.add N P role who).steps = s.steps + 1 ∧ (role < N → who < P → (s.add N P role who).In role who = true) := by
  unfold St.add
  cases hb : addB N P s.In role who with
  | true =>
    rw [if_pos rfl]
    obtain ⟨a, m, ha, hm, h1, h2, h3⟩ := addB_iff.1 hb
    obtain rfl : role = a := by omega
    obtain rfl : who = m := by omega
    have hin : ∀ i c, addIn N P s.In role who i c = true ↔ s.In i c = true ∨ (i, c) = (role, who) := fun i c => by
      unfold addIn
      rw [if_pos hb]
      show (if i = role then upd (s.In i) who else s.In i) c = true ↔ _
      by_cases hi : i = role
      · subst hi
        rw [if_pos rfl]
        show (decide (c = who) || s.In i c) = true ↔ _
        simp [or_comm]
      · rw [if_neg hi]; simp [hi]
    have ht : addTot N P s.In role who s.tot = s.tot + 1 := by unfold addTot; rw [if_pos hb]
    refine ⟨⟨fun i c x => ?_, fun i c x => ?_, fun f x => ?_, addTot_sum h.tot⟩, ⟨Nat.le_succ _, ?_, ?_, ?_, fun i c x => (hin i c).2 (.inl x), fun i c x => ?_, fun f x => List.mem_append_left _ x⟩, rfl, fun _ _ => (hin role who).2 (.inr rfl)⟩
    · rcases (hin i c).1 x with y | y
      · exact h.snd i c y
      · cases y; exact hd
    · rcases (hin i c).1 x with y | y
      · exact h.out i c y
      · cases y; exact ⟨h1, h2⟩
    · rcases List.mem_append.1 x with y | y
      · exact (hin _ _).2 (.inl (h.que f y))
      · rw [List.mem_singleton] at y; subst y; exact (hin _ _).2 (.inr rfl)
    · show s.tot ≤ addTot N P s.In role who s.tot; omega
    · show s.q.length ≤ (s.q ++ [(role, who)]).length; simp
    · show s.tot + (s.q ++ [(role, who)]).length = addTot N P s.In role who s.tot + s.q.length
      rw [ht]; simp; omega
    · rcases (hin i c).1 x with y | y
      · exact .inl y
      · rw [y]; exact .inr (List.mem_append_right _ (List.mem_singleton.2 rfl))
  | false =>
    rw [if_neg (by simp)]
    refine ⟨h.tick, Ext.tick s, rfl, fun h1 h2 => ?_⟩
    show s.In role who = true
    cases hi : s.In role who with
    | true => rfl
    | false =>
      have := (addB_iff (R := N) (C := P) (In := s.In) (i := role) (c := who)).2 ⟨role, who, rfl, rfl, h1, h2, hi⟩
      rw [this] at hb; cases hb
theorem St.addAll_good {dst : Nat} : ∀ (l : List Nat) (s : St), Good N P K rs s → (∀ x, x ∈ l → Der K rs dst x) →
    Good N P K rs (St.addAll N P dst l s) ∧ Ext s (St.addAll N P dst l s) ∧ (St.addAll N P dst l s).steps = s.steps + l.length ∧ (∀ x, x ∈ l → dst < N → x < P → (St.addAll N P dst l s).In dst x = true)
  | [], s, h, _ => ⟨h, Ext.refl s, rfl, fun x hx => (by cases hx)⟩
  | y :: l, s, h, hd => by
    obtain ⟨g1, e1, t1, i1⟩ := St.add_good h (hd y (List.mem_cons_self ..))
    obtain ⟨g2, e2, t2, i2⟩ := St.addAll_good l _ g1 (fun x hx => hd x (List.mem_cons_of_mem _ hx))
    refine ⟨g2, e1.trans e2, ?_, fun x hx h1 h2 => ?_⟩
    · show (St.addAll N P dst l (s.add N P dst y)).steps = _
      rw [t2, t1, List.length_cons]; omega
    · rcases List.mem_cons.1 hx with rfl | hx
      · exact e2.mono _ _ (i1 h1 h2)
      · exact i2 x hx h1 h2
theorem listTo_mem {p : Nat → Bool} {x : Nat} : ∀ n, x < n → p x = true → x ∈ listTo p n
  | 0, h, _ => absurd h (Nat.not_lt_zero _)
  | n + 1, h, hp => by
    unfold listTo
    rcases Nat.lt_or_ge x n with h1 | h1
    · have := listTo_mem n h1 hp
      split
      · exact List.mem_append_left _ this
      · first | exact this | (simp; exact this)
    · obtain rfl : x = n := by omega
      simp [hp]
theorem nat_of {a : Int} {n : Nat} (h0 : 0 ≤ a) (h1 : a < n) : a.toNat < n := by omega
theorem St.all_good (h : Good N P K rs s) {src dst : Nat} (hd : ∀ x, Der K rs src x → Der K rs dst x) :
    Good N P K rs (s.all N P src dst) ∧ Ext s (s.all N P src dst) ∧ (s.all N P src dst).steps ≤ s.steps + P ∧ (dst < N → ∀ x, s.In src x = true → (s.all N P src dst).In dst x = true) := by
  obtain ⟨g, e, t, i⟩ := St.addAll_good (dst := dst) (listTo (s.In src) P) s h (fun x hx => hd x (h.snd _ _ (listTo_lt _ _ x hx).2))
  refine ⟨g, e, ?_, fun h1 x hx => ?_⟩
  · show (St.addAll N P dst (listTo (s.In src) P) s).steps ≤ _
    rw [t, listTo_len]
    have := cnt_le (s.In src) P
    omega
  · have := (h.out _ _ hx).2
    exact i x (listTo_mem P this hx) h1 this
/-- What one rule of a role's row must have brought. -/
def Did1 (K : Nat) (f : Nat × Nat) (s t : St) (r : Rl) : Prop :=
  (r.kind = 2 → t.In r.head.toNat f.2 = true) ∧ (r.kind = 3 → ∀ c, s.In (f.2 * K + r.via.toNat) c = true → t.In r.head.toNat c = true) ∧
  (r.kind = 4 → s.In r.a.toNat f.2 = true → s.In r.b.toNat f.2 = true → t.In r.head.toNat f.2 = true)
def Did2 (K : Nat) (f : Nat × Nat) (s t : St) (r : Rl) : Prop := s.In r.a.toNat (f.1 / K) = true → t.In r.head.toNat f.2 = true
theorem keep_by {N : Nat} {r : Rl} {i : Nat} (hi : i < N) (h : keepB N r i = true) : (r.kind = 2 ∧ r.a = i) ∨ (r.kind = 3 ∧ r.a = i) ∨ (r.kind = 4 ∧ (r.a = i ∨ r.b = i)) := by
  unfold keepB at h
  rw [if_pos hi] at h
  simp at h
  omega
theorem keep_via {N : Nat} {r : Rl} {v : Nat} (h : keepB N r (N + v) = true) : r.kind = 3 ∧ r.via = v := by
  unfold keepB at h
  rw [if_neg (by omega)] at h
  simp at h
  omega
theorem St.by1_good {P : Nat} (hN : N = P * K) (h : Good N P K rs s) {f : Nat × Nat} (hf1 : f.1 < N) (hf2 : f.2 < P) (hf : s.In f.1 f.2 = true) {r : Rl} (hr : r ∈ rs) (hR : rightB P K r = true) (hk : keepB N r f.1 = true) :
    Good N P K rs (s.by1 N P K f r) ∧ Ext s (s.by1 N P K f r) ∧ (s.by1 N P K f r).steps ≤ s.steps + 1 + P ∧ Did1 K f s (s.by1 N P K f r) r := by
  obtain ⟨⟨hh0, hh1⟩, _⟩ := right_iff hR
  rw [← hN] at hh1
  have hh : r.head.toNat < N := by omega
  have hd := h.snd _ _ hf
  have hP1 : 1 ≤ P := by omega
  unfold St.by1
  rcases keep_by hf1 hk with ⟨k2, ha⟩ | ⟨k3, ha⟩ | ⟨k4, ha⟩
  · rw [if_pos k2]
    obtain ⟨g, e, t, i⟩ := St.add_good (s := s.tick) h.tick (role := r.head.toNat) (who := f.2) (.incl r f.2 hr k2 (by rw [ha]; exact hd))
    refine ⟨g, (Ext.tick s).trans e, ?_, fun _ => i hh hf2, fun k => absurd k (by omega), fun k => absurd k (by omega)⟩
    rw [t]; show s.steps + 1 + 1 ≤ _; omega
  · rw [if_neg (by omega), if_pos k3]
    obtain ⟨g, e, t, i⟩ := St.all_good (s := s.tick) h.tick (src := f.2 * K + r.via.toNat) (dst := r.head.toNat) (fun x hx => .link r f.2 x hr k3 (by rw [ha]; exact hd) hx)
    exact ⟨g, (Ext.tick s).trans e, t, fun k => absurd k (by omega), fun _ c hc => i hh c hc, fun k => absurd k (by omega)⟩
  · rw [if_neg (by omega), if_neg (by omega), if_pos k4]
    cases hab : s.In r.a.toNat f.2 && s.In r.b.toNat f.2 with
    | true =>
      rw [if_pos rfl]
      rw [Bool.and_eq_true] at hab
      obtain ⟨g, e, t, i⟩ := St.add_good (s := s.tick) h.tick (role := r.head.toNat) (who := f.2) (.both r f.2 hr k4 (h.snd _ _ hab.1) (h.snd _ _ hab.2))
      refine ⟨g, (Ext.tick s).trans e, ?_, fun k => absurd k (by omega), fun k => absurd k (by omega), fun _ _ _ => i hh hf2⟩
      rw [t]; show s.steps + 1 + 1 ≤ _; omega
    | false =>
      rw [if_neg (by simp)]
      refine ⟨h.tick, Ext.tick s, by show s.steps + 1 ≤ _; omega, fun k => absurd k (by omega), fun k => absurd k (by omega), fun _ h1 h2 => ?_⟩
      rw [h1, h2] at hab; cases hab
theorem Did1.up {f : Nat × Nat} {s s' t t' : St} {r : Rl} (h : Did1 K f s t r) (e : Ext s' s) (e2 : Ext t t') : Did1 K f s' t' r :=
  ⟨fun k => e2.mono _ _ (h.1 k), fun k c hc => e2.mono _ _ (h.2.1 k c (e.mono _ _ hc)), fun k h1 h2 => e2.mono _ _ (h.2.2 k (e.mono _ _ h1) (e.mono _ _ h2))⟩
theorem St.byL_good {P : Nat} (hN : N = P * K) {f : Nat × Nat} (hf1 : f.1 < N) (hf2 : f.2 < P) : ∀ (l : List Rl) (s : St), Good N P K rs s → s.In f.1 f.2 = true → (∀ r, r ∈ l → r ∈ rs ∧ rightB P K r = true ∧ keepB N r f.1 = true) →
    Good N P K rs (St.byL N P K f l s) ∧ Ext s (St.byL N P K f l s) ∧ (St.byL N P K f l s).steps ≤ s.steps + l.length * (1 + P) ∧ (∀ r, r ∈ l → Did1 K f s (St.byL N P K f l s) r)
  | [], s, h, _, _ => ⟨h, Ext.refl s, Nat.le_add_right _ _, fun r hr => (by cases hr)⟩
  | r :: l, s, h, hf, hl => by
    obtain ⟨m1, m2, m3⟩ := hl r (List.mem_cons_self ..)
    obtain ⟨g1, e1, t1, d1⟩ := St.by1_good hN h hf1 hf2 hf m1 m2 m3
    obtain ⟨g2, e2, t2, d2⟩ := St.byL_good hN hf1 hf2 l _ g1 (e1.mono _ _ hf) (fun x hx => hl x (List.mem_cons_of_mem _ hx))
    refine ⟨g2, e1.trans e2, ?_, fun x hx => ?_⟩
    · show (St.byL N P K f l (s.by1 N P K f r)).steps ≤ _
      rw [List.length_cons, Nat.succ_mul]; omega
    · rcases List.mem_cons.1 hx with rfl | hx
      · exact d1.up (Ext.refl _) e2
      · exact (d2 x hx).up e1 (Ext.refl _)
theorem St.via1_good {P : Nat} (hN : N = P * K) (hK : 0 < K) (h : Good N P K rs s) {f : Nat × Nat} (hf1 : f.1 < N) (hf2 : f.2 < P) (hf : s.In f.1 f.2 = true) {r : Rl} (hr : r ∈ rs) (hR : rightB P K r = true) (hk : keepB N r (N + f.1 % K) = true) :
    Good N P K rs (s.via1 N P K f r) ∧ Ext s (s.via1 N P K f r) ∧ (s.via1 N P K f r).steps ≤ s.steps + 2 ∧ Did2 K f s (s.via1 N P K f r) r := by
  obtain ⟨⟨hh0, hh1⟩, _⟩ := right_iff hR
  rw [← hN] at hh1
  have hh : r.head.toNat < N := by omega
  have hd := h.snd _ _ hf
  obtain ⟨k3, hv⟩ := keep_via hk
  have hfd : f.1 / K * K + r.via.toNat = f.1 := by
    rw [hv, Int.toNat_natCast, Nat.mul_comm]; exact Nat.div_add_mod f.1 K
  unfold St.via1
  cases ha : s.In r.a.toNat (f.1 / K) with
  | true =>
    rw [if_pos rfl]
    obtain ⟨g, e, t, i⟩ := St.add_good (s := s.tick) h.tick (role := r.head.toNat) (who := f.2) (.link r (f.1 / K) f.2 hr k3 (h.snd _ _ ha) (by rw [hfd]; exact hd))
    exact ⟨g, (Ext.tick s).trans e, by rw [t]; exact Nat.le_refl _, fun _ => i hh hf2⟩
  | false =>
    rw [if_neg (by simp)]
    exact ⟨h.tick, Ext.tick s, by show s.steps + 1 ≤ _; omega, fun k => by rw [k] at ha; cases ha⟩
theorem St.viaL_good {P : Nat} (hN : N = P * K) (hK : 0 < K) {f : Nat × Nat} (hf1 : f.1 < N) (hf2 : f.2 < P) : ∀ (l : List Rl) (s : St), Good N P K rs s → s.In f.1 f.2 = true → (∀ r, r ∈ l → r ∈ rs ∧ rightB P K r = true ∧ keepB N r (N + f.1 % K) = true) →
    Good N P K rs (St.viaL N P K f l s) ∧ Ext s (St.viaL N P K f l s) ∧ (St.viaL N P K f l s).steps ≤ s.steps + l.length * 2 ∧ (∀ r, r ∈ l → Did2 K f s (St.viaL N P K f l s) r)
  | [], s, h, _, _ => ⟨h, Ext.refl s, Nat.le_add_right _ _, fun r hr => (by cases hr)⟩
  | r :: l, s, h, hf, hl => by
    obtain ⟨m1, m2, m3⟩ := hl r (List.mem_cons_self ..)
    obtain ⟨g1, e1, t1, d1⟩ := St.via1_good hN hK h hf1 hf2 hf m1 m2 m3
    obtain ⟨g2, e2, t2, d2⟩ := St.viaL_good hN hK hf1 hf2 l _ g1 (e1.mono _ _ hf) (fun x hx => hl x (List.mem_cons_of_mem _ hx))
    refine ⟨g2, e1.trans e2, ?_, fun x hx => ?_⟩
    · show (St.viaL N P K f l (s.via1 N P K f r)).steps ≤ _
      rw [List.length_cons, Nat.succ_mul]; omega
    · rcases List.mem_cons.1 hx with rfl | hx
      · exact fun k => e2.mono _ _ (d1 k)
      · exact fun k => d2 x hx (e1.mono _ _ k)
theorem St.look_good {P : Nat} (hN : N = P * K) (hK : 0 < K) (hrs : ∀ r, r ∈ rs → rightB P K r = true) (h : Good N P K rs s) {f : Nat × Nat} (hf1 : f.1 < N) (hf2 : f.2 < P) (hf : s.In f.1 f.2 = true) :
    Good N P K rs (s.look N P K (keptL N rs) f) ∧ Ext s (s.look N P K (keptL N rs) f) ∧ (s.look N P K (keptL N rs) f).steps ≤ s.steps + rs.length * (3 + P) ∧
    (∀ r, r ∈ rs → keepB N r f.1 = true → Did1 K f s (s.look N P K (keptL N rs) f) r) ∧ (∀ r, r ∈ rs → keepB N r (N + f.1 % K) = true → Did2 K f s (s.look N P K (keptL N rs) f) r) := by
  have hm : ∀ i r, r ∈ keptL N rs i → r ∈ rs ∧ rightB P K r = true ∧ keepB N r i = true := fun i r hr => by
    obtain ⟨h1, h2⟩ := List.mem_filter.1 hr
    exact ⟨h1, hrs r h1, h2⟩
  obtain ⟨g1, e1, t1, d1⟩ := St.byL_good hN hf1 hf2 (keptL N rs f.1) s h hf (hm _)
  obtain ⟨g2, e2, t2, d2⟩ := St.viaL_good hN hK hf1 hf2 (keptL N rs (N + f.1 % K)) _ g1 (e1.mono _ _ hf) (hm _)
  refine ⟨g2, e1.trans e2, ?_, fun r hr hk => (d1 r (List.mem_filter.2 ⟨hr, hk⟩)).up (Ext.refl _) e2, fun r hr hk a => d2 r (List.mem_filter.2 ⟨hr, hk⟩) (e1.mono _ _ a)⟩
  have l1 := keptL_len N rs f.1
  have l2 := keptL_len N rs (N + f.1 % K)
  have l3 := Nat.mul_le_mul_right (1 + P) l1
  unfold St.look
  rw [show 3 + P = (1 + P) + 2 from by omega, Nat.mul_add]
  omega
/-- What was looked at has brought all that follows. -/
structure Closed (K : Nat) (rs : List Rl) (s : St) : Prop where
  mem : ∀ r, r ∈ rs → r.kind = 1 → s.In r.head.toNat r.who.toNat = true
  incl : ∀ r, r ∈ rs → r.kind = 2 → ∀ c, s.In r.a.toNat c = true → (r.a.toNat, c) ∉ s.q → s.In r.head.toNat c = true
  link : ∀ r, r ∈ rs → r.kind = 3 → ∀ x c, s.In r.a.toNat x = true → (r.a.toNat, x) ∉ s.q → s.In (x * K + r.via.toNat) c = true → (x * K + r.via.toNat, c) ∉ s.q → s.In r.head.toNat c = true
  both : ∀ r, r ∈ rs → r.kind = 4 → ∀ c, s.In r.a.toNat c = true → (r.a.toNat, c) ∉ s.q → s.In r.b.toNat c = true → (r.b.toNat, c) ∉ s.q → s.In r.head.toNat c = true
theorem Closed.all (h : Closed K rs s) (hq : s.q = []) {i c : Nat} (d : Der K rs i c) : s.In i c = true := by
  have hn : ∀ f : Nat × Nat, f ∉ s.q := fun f hf => by rw [hq] at hf; cases hf
  induction d with
  | mem r h1 h2 => exact h.mem r h1 h2
  | incl r c h1 h2 _ i1 => exact h.incl r h1 h2 c i1 (hn _)
  | link r x c h1 h2 _ _ i1 i2 => exact h.link r h1 h2 x c i1 (hn _) i2 (hn _)
  | both r c h1 h2 _ _ i1 i2 => exact h.both r h1 h2 c i1 (hn _) i2 (hn _)
theorem St.look_closed {P : Nat} (hN : N = P * K) (hK : 0 < K) (hrs : ∀ r, r ∈ rs → rightB P K r = true) {f : Nat × Nat} {q : List (Nat × Nat)} {In : Nat → Nat → Bool} {tot steps : Nat}
    (h : Good N P K rs ⟨In, tot, steps, f :: q⟩) (hc : Closed K rs ⟨In, tot, steps, f :: q⟩) : Closed K rs (St.look N P K (keptL N rs) ⟨In, tot, steps, q⟩ f) := by
  have hf : In f.1 f.2 = true := h.que f (List.mem_cons_self ..)
  obtain ⟨hf1, hf2⟩ := h.out _ _ hf
  have h0 : Good N P K rs ⟨In, tot, steps, q⟩ := ⟨h.snd, h.out, fun x hx => h.que x (List.mem_cons_of_mem _ hx), h.tot⟩
  obtain ⟨g, e, _, d1, d2⟩ := St.look_good hN hK hrs h0 hf1 hf2 hf
  obtain ⟨t, ht⟩ : ∃ t, St.look N P K (keptL N rs) ⟨In, tot, steps, q⟩ f = t := ⟨_, rfl⟩
  rw [ht] at g e d1 d2 ⊢
  have hold : ∀ i c, t.In i c = true → (i, c) ∉ t.q → In i c = true ∧ ((i, c) = f ∨ (i, c) ∉ f :: q) := fun i c h1 h2 => by
    rcases e.new i c h1 with h3 | h3
    · refine ⟨h3, ?_⟩
      by_cases hef : (i, c) = f
      · exact .inl hef
      · right
        intro hm
        rcases List.mem_cons.1 hm with h4 | h4
        · exact hef h4
        · exact h2 (e.sub _ h4)
    · exact absurd h3 h2
  have up := e.mono
  have ka : ∀ (r : Rl) (i : Nat), 0 ≤ r.a → r.a.toNat = i → r.a = (i : Int) := fun r i h0 h1 => by omega
  have kb : ∀ (r : Rl) (i : Nat), 0 ≤ r.b → r.b.toNat = i → r.b = (i : Int) := fun r i h0 h1 => by omega
  refine ⟨fun r hr k => up _ _ (hc.mem r hr k), fun r hr k c h1 h2 => ?_, fun r hr k x c h1 h2 h3 h4 => ?_, fun r hr k c h1 h2 h3 h4 => ?_⟩
  · obtain ⟨_, hcase⟩ := right_iff (hrs r hr)
    obtain ⟨n1, n2⟩ := hold _ _ h1 h2
    rcases n2 with n2 | n2
    · subst n2
      refine (d1 r hr ?_).1 k
      unfold keepB
      rw [if_pos hf1]
      have : r.a = (r.a.toNat : Int) := by omega
      simp [k]; omega
    · exact up _ _ (hc.incl r hr k c n1 n2)
  · obtain ⟨_, hcase⟩ := right_iff (hrs r hr)
    obtain ⟨n1, n2⟩ := hold _ _ h1 h2
    obtain ⟨m1, m2⟩ := hold _ _ h3 h4
    rcases m2 with m2 | m2
    · subst m2
      have hv : r.via.toNat < K := by omega
      refine d2 r hr ?_ ?_
      · unfold keepB
        rw [if_neg (by omega)]
        simp only [Nat.mul_add_mod', Nat.mod_eq_of_lt hv]
        simp [k]; omega
      · show In r.a.toNat ((x * K + r.via.toNat) / K) = true
        rw [Nat.add_comm, Nat.add_mul_div_right _ _ hK, Nat.div_eq_of_lt hv, Nat.zero_add]
        exact n1
    rcases n2 with n2 | n2
    · subst n2
      refine (d1 r hr ?_).2.1 k c m1
      unfold keepB
      rw [if_pos hf1]
      simp [k]; omega
    · exact up _ _ (hc.link r hr k x c n1 n2 m1 m2)
  · obtain ⟨_, hcase⟩ := right_iff (hrs r hr)
    obtain ⟨n1, n2⟩ := hold _ _ h1 h2
    obtain ⟨m1, m2⟩ := hold _ _ h3 h4
    rcases n2 with n2 | n2
    · subst n2
      refine (d1 r hr ?_).2.2 k n1 m1
      unfold keepB
      rw [if_pos hf1]
      simp [k]; omega
    rcases m2 with m2 | m2
    · subst m2
      refine (d1 r hr ?_).2.2 k n1 m1
      unfold keepB
      rw [if_pos hf1]
      simp [k]; omega
    · exact up _ _ (hc.both r hr k c n1 n2 m1 m2)
end
end Go.Proofs.Ytahnedkdodjomaa
/-
  The maker's run, in plain steps: at its end just that is in what follows; and how many steps it took.
-/
set_option linter.unusedVariables false
set_option linter.unusedSimpArgs false
set_option linter.unnecessarySimpa false
namespace Go.Proofs.Ytahnedkdodjomaa
open Go.ChangeShapes Go.WideShapes Go.ChangeAt Go.RowKit Go.Deep SetPlain
section
variable {N P K : Nat} {rs : List Rl} {s : St}
theorem St.put_good {P : Nat} (hN : N = P * K) (h : Good N P K rs s) {r : Rl} (hr : r ∈ rs) (hR : rightB P K r = true) :
    Good N P K rs (s.put N P r) ∧ Ext s (s.put N P r) ∧ (s.put N P r).steps ≤ s.steps + 2 ∧ (r.kind = 1 → (s.put N P r).In r.head.toNat r.who.toNat = true) := by
  obtain ⟨⟨hh0, hh1⟩, hcase⟩ := right_iff hR
  rw [← hN] at hh1
  unfold St.put
  by_cases hk : r.kind = 1
  · rw [if_pos hk]
    obtain ⟨g, e, t, i⟩ := St.add_good (s := s.tick) h.tick (role := r.head.toNat) (who := r.who.toNat) (.mem r hr hk)
    exact ⟨g, (Ext.tick s).trans e, by rw [t]; exact Nat.le_refl _, fun _ => i (by omega) (by omega)⟩
  · rw [if_neg hk]
    exact ⟨h.tick, Ext.tick s, by show s.steps + 1 ≤ _; omega, fun k => absurd k hk⟩
theorem St.putL_good {P : Nat} (hN : N = P * K) : ∀ (l : List Rl) (s : St), Good N P K rs s → (∀ r, r ∈ l → r ∈ rs ∧ rightB P K r = true) →
    Good N P K rs (St.putL N P l s) ∧ Ext s (St.putL N P l s) ∧ (St.putL N P l s).steps ≤ s.steps + 2 * l.length ∧ (∀ r, r ∈ l → r.kind = 1 → (St.putL N P l s).In r.head.toNat r.who.toNat = true)
  | [], s, h, _ => ⟨h, Ext.refl s, Nat.le_add_right _ _, fun r hr => (by cases hr)⟩
  | r :: l, s, h, hl => by
    obtain ⟨m1, m2⟩ := hl r (List.mem_cons_self ..)
    obtain ⟨g1, e1, t1, i1⟩ := St.put_good hN h m1 m2
    obtain ⟨g2, e2, t2, i2⟩ := St.putL_good hN l _ g1 (fun x hx => hl x (List.mem_cons_of_mem _ hx))
    refine ⟨g2, e1.trans e2, ?_, fun x hx hk => ?_⟩
    · show (St.putL N P l (s.put N P r)).steps ≤ _
      rw [List.length_cons]; omega
    · rcases List.mem_cons.1 hx with rfl | hx
      · exact e2.mono _ _ (i1 hk)
      · exact i2 x hx hk
theorem St.putL_snoc (N P : Nat) (r : Rl) : ∀ (l : List Rl) (s : St), St.putL N P (l ++ [r]) s = (St.putL N P l s).put N P r
  | [], s => rfl
  | x :: l, s => St.putL_snoc N P r l (s.put N P x)
/-- A maker on its way: p facts have been looked at. -/
structure Run (N P K : Nat) (rs : List Rl) (p : Nat) (s : St) : Prop where
  good : Good N P K rs s
  closed : Closed K rs s
  pops : p + s.q.length = s.tot
  steps : s.steps ≤ 2 * rs.length + p * (rs.length * (3 + P))
theorem Run.start {P : Nat} (hN : N = P * K) (hrs : ∀ r, r ∈ rs → rightB P K r = true) : Run N P K rs 0 (St.putL N P rs St.zero) := by
  obtain ⟨g, e, t, i⟩ := St.putL_good (rs := rs) hN rs St.zero Good.zero (fun r hr => ⟨hr, hrs r hr⟩)
  have hq : ∀ i c, (St.putL N P rs St.zero).In i c = true → (i, c) ∈ (St.putL N P rs St.zero).q := fun i c h => (e.new i c h).elim (fun x => by cases x) id
  refine ⟨g, ⟨i, fun r _ _ c h1 h2 => absurd (hq _ _ h1) h2, fun r _ _ x c h1 h2 => absurd (hq _ _ h1) h2, fun r _ _ c h1 h2 => absurd (hq _ _ h1) h2⟩, ?_, ?_⟩
  · have := e.bal
    rw [Nat.zero_add]
    have h1 : St.zero.tot = 0 := rfl
    have h2 : St.zero.q.length = 0 := rfl
    omega
  · rw [Nat.zero_mul, Nat.add_zero]
    have h1 : St.zero.steps = 0 := rfl
    omega
theorem Run.next {P : Nat} (hN : N = P * K) (hrs : ∀ r, r ∈ rs → rightB P K r = true) {In : Nat → Nat → Bool} {tot steps p : Nat} {f : Nat × Nat} {q : List (Nat × Nat)} (h : Run N P K rs p ⟨In, tot, steps, f :: q⟩) :
    Run N P K rs (p + 1) (St.look N P K (keptL N rs) ⟨In, tot, steps, q⟩ f) ∧ Ext ⟨In, tot, steps, q⟩ (St.look N P K (keptL N rs) ⟨In, tot, steps, q⟩ f) ∧ f.1 < N ∧ f.2 < P ∧ 0 < K ∧ p < P * N := by
  have hf : In f.1 f.2 = true := h.good.que f (List.mem_cons_self ..)
  obtain ⟨hf1, hf2⟩ := h.good.out _ _ hf
  have hK : 0 < K := by
    rcases Nat.eq_zero_or_pos K with h0 | h0
    · rw [h0, Nat.mul_zero] at hN; omega
    · exact h0
  have h0 : Good N P K rs ⟨In, tot, steps, q⟩ := ⟨h.good.snd, h.good.out, fun x hx => h.good.que x (List.mem_cons_of_mem _ hx), h.good.tot⟩
  obtain ⟨g, e, t, _, _⟩ := St.look_good hN hK hrs h0 hf1 hf2 hf
  have hp := h.pops
  have hl := h.good.tot_le
  have hs := h.steps
  have hb := e.bal
  simp only [List.length_cons] at hp
  refine ⟨⟨g, St.look_closed hN hK hrs h.good h.closed, ?_, ?_⟩, e, hf1, hf2, hK, ?_⟩
  · show p + 1 + _ = _
    simp only [] at hb
    omega
  · have hsm : (p + 1) * (rs.length * (3 + P)) = p * (rs.length * (3 + P)) + rs.length * (3 + P) := Nat.succ_mul _ _
    simp only [] at hs t
    omega
  · simp only [] at hp hl
    omega
theorem Run.done {p : Nat} (h : Run N P K rs p s) (hq : s.q = []) (i c : Nat) : s.In i c = true ↔ Der K rs i c := ⟨h.good.snd i c, fun d => h.closed.all hq d⟩
theorem steps_arith {P K n m p S : Nat} (hp : p ≤ P * (P * K)) (hnm : n ≤ m) (hS : S ≤ 2 * n + p * (n * (3 + P))) : S ≤ 4 * (P + 1) * (P + 1) * (P + 1) * (K + 1) * (K + 1) * (m + 1) := by
  obtain ⟨A, hA⟩ : ∃ A, A = P * P * P := ⟨_, rfl⟩
  have h1 : p * (n * (3 + P)) ≤ 4 * (A * K * n) := by
    rcases Nat.eq_zero_or_pos P with h0 | h0
    · subst h0
      have : p = 0 := by simpa using hp
      rw [this, Nat.zero_mul]; exact Nat.zero_le _
    · have h2 : n * (3 + P) ≤ n * (4 * P) := Nat.mul_le_mul_left _ (by omega)
      have h3 := Nat.mul_le_mul hp h2
      have h4 : P * (P * K) * (n * (4 * P)) = 4 * (A * K * n) := by rw [hA]; simp only [Nat.mul_comm, Nat.mul_left_comm, Nat.mul_assoc]
      omega
  have hX : A + 1 ≤ (P + 1) * (P + 1) * (P + 1) := by
    rw [hA]
    have : (P + 1) * (P + 1) * (P + 1) = P * P * P + 3 * (P * P) + 3 * P + 1 := by
      simp only [Nat.mul_add, Nat.add_mul, Nat.mul_one, Nat.one_mul, Nat.mul_assoc]; omega
    omega
  have hY : K + 1 ≤ (K + 1) * (K + 1) := Nat.le_mul_of_pos_left _ (by omega)
  have h5 := Nat.mul_le_mul (Nat.mul_le_mul hX hY) (show n + 1 ≤ m + 1 by omega)
  have h6 : A * K * n + n ≤ (A + 1) * (K + 1) * (n + 1) := by
    have h7 : (A + 1) * (K + 1) = A * K + A + K + 1 := by rw [Nat.add_mul, Nat.mul_add]; omega
    have h8 : (A * K + 1) * n ≤ (A * K + A + K + 1) * (n + 1) := Nat.mul_le_mul (by omega) (by omega)
    rw [Nat.add_mul, Nat.one_mul] at h8
    rw [h7]; exact h8
  have h9 : 4 * (P + 1) * (P + 1) * (P + 1) * (K + 1) * (K + 1) * (m + 1) = 4 * ((P + 1) * (P + 1) * (P + 1) * ((K + 1) * (K + 1)) * (m + 1)) := by simp only [Nat.mul_assoc]
  rw [h9]
  omega
theorem Run.bound {P p : Nat} (hN : N = P * K) (h : Run N P K rs p s) {m : Nat} (hm : rs.length ≤ m) : s.steps ≤ 4 * (P + 1) * (P + 1) * (P + 1) * (K + 1) * (K + 1) * (m + 1) := by
  have h1 := h.good.tot_le
  have h2 := h.pops
  have h3 := h.steps
  rw [hN] at h1
  exact steps_arith (by omega) hm h3
/-- Nothing in it is great. -/
structure Few (s : St) : Prop where
  steps : s.steps ≤ 10000000000000000
  tot : s.tot ≤ 1000000
  len : s.q.length ≤ 1000000
theorem Few.down {s t : St} (e : Ext s t) (h : Few t) : Few s := ⟨Nat.le_trans e.steps h.steps, Nat.le_trans e.tot h.tot, Nat.le_trans e.len h.len⟩
theorem Run.few {P p : Nat} (hN : N = P * K) (hP : P ≤ 64) (hK : K ≤ 64) (hn : rs.length ≤ 1000000) (h : Run N P K rs p s) : Few s := by
  have h1 := h.good.tot_le
  have h2 := h.pops
  have h3 := h.bound hN (Nat.le_refl _)
  have hN2 : P * N ≤ 64 * (64 * 64) := by rw [hN]; exact Nat.mul_le_mul hP (Nat.mul_le_mul hP hK)
  have h4 : 4 * (P + 1) * (P + 1) * (P + 1) * (K + 1) * (K + 1) * (rs.length + 1) ≤ 4 * 65 * 65 * 65 * 65 * 65 * 1000001 * 1 := by
    rw [Nat.mul_one]
    exact Nat.mul_le_mul (Nat.mul_le_mul (Nat.mul_le_mul (Nat.mul_le_mul (Nat.mul_le_mul (Nat.mul_le_mul (Nat.le_refl _) (by omega)) (by omega)) (by omega)) (by omega)) (by omega)) (by omega)
  refine ⟨?_, by omega, by omega⟩
  have h5 : 4 * 65 * 65 * 65 * 65 * 65 * 1000001 * 1 = 4641167141162500 := by decide
  omega
theorem St.add_ext (s : St) (role who : Nat) : Ext s (s.add N P role who) := by
  unfold St.add
  cases hb : addB N P s.In role who with
  | true =>
    rw [if_pos rfl]
    have ht : addTot N P s.In role who s.tot = s.tot + 1 := by unfold addTot; rw [if_pos hb]
    have hin : ∀ i c, addIn N P s.In role who i c = true ↔ s.In i c = true ∨ (i, c) = (role, who) := fun i c => by
      unfold addIn
      rw [if_pos hb]
      show (if i = role then upd (s.In i) who else s.In i) c = true ↔ _
      by_cases hi : i = role
      · subst hi
        rw [if_pos rfl]
        show (decide (c = who) || s.In i c) = true ↔ _
        simp [or_comm]
      · rw [if_neg hi]; simp [hi]
    refine ⟨Nat.le_succ _, ?_, ?_, ?_, fun i c x => (hin i c).2 (.inl x), fun i c x => ?_, fun f x => List.mem_append_left _ x⟩
    · show s.tot ≤ addTot N P s.In role who s.tot; omega
    · show s.q.length ≤ (s.q ++ [(role, who)]).length; simp
    · show s.tot + (s.q ++ [(role, who)]).length = addTot N P s.In role who s.tot + s.q.length
      rw [ht]; simp; omega
    · rcases (hin i c).1 x with y | y
      · exact .inl y
      · rw [y]; exact .inr (List.mem_append_right _ (List.mem_singleton.2 rfl))
  | false => rw [if_neg (by simp)]; exact Ext.tick s
theorem St.addAll_ext {dst : Nat} : ∀ (l : List Nat) (s : St), Ext s (St.addAll N P dst l s)
  | [], s => Ext.refl s
  | x :: l, s => (St.add_ext s dst x).trans (St.addAll_ext l _)
theorem St.addAll_append {dst : Nat} (m : List Nat) : ∀ (l : List Nat) (s : St), St.addAll N P dst (l ++ m) s = St.addAll N P dst m (St.addAll N P dst l s)
  | [], s => rfl
  | x :: l, s => St.addAll_append m l _
theorem St.addAll_take {dst : Nat} (l : List Nat) (s : St) {j x : Nat} (hx : l[j]? = some x) :
    St.addAll N P dst (l.take (j + 1)) s = (St.addAll N P dst (l.take j) s).add N P dst x ∧ Ext ((St.addAll N P dst (l.take j) s).add N P dst x) (St.addAll N P dst l s) := by
  have h1 : l.take (j + 1) = l.take j ++ [x] := by rw [List.take_add_one, hx]; rfl
  have h2 : St.addAll N P dst (l.take (j + 1)) s = (St.addAll N P dst (l.take j) s).add N P dst x := by rw [h1, St.addAll_append]; rfl
  refine ⟨h2, ?_⟩
  rw [← h2]
  have h3 : St.addAll N P dst l s = St.addAll N P dst (l.drop (j + 1)) (St.addAll N P dst (l.take (j + 1)) s) := by rw [← St.addAll_append, List.take_append_drop]
  rw [h3]
  exact St.addAll_ext _ _
theorem St.all_ext (s : St) (src dst : Nat) : Ext s (s.all N P src dst) := St.addAll_ext _ _
theorem St.by1_ext {f : Nat × Nat} (s : St) (r : Rl) : Ext s (s.by1 N P K f r) := by
  unfold St.by1
  split
  · exact (Ext.tick s).trans (St.add_ext _ _ _)
  split
  · exact (Ext.tick s).trans (St.all_ext _ _ _)
  split
  · split
    · exact (Ext.tick s).trans (St.add_ext _ _ _)
    · exact Ext.tick s
  · exact Ext.tick s
theorem St.via1_ext {f : Nat × Nat} (s : St) (r : Rl) : Ext s (s.via1 N P K f r) := by
  unfold St.via1
  split
  · exact (Ext.tick s).trans (St.add_ext _ _ _)
  · exact Ext.tick s
theorem St.byL_ext {f : Nat × Nat} : ∀ (l : List Rl) (s : St), Ext s (St.byL N P K f l s)
  | [], s => Ext.refl s
  | r :: l, s => (St.by1_ext s r).trans (St.byL_ext l _)
theorem St.viaL_ext {f : Nat × Nat} : ∀ (l : List Rl) (s : St), Ext s (St.viaL N P K f l s)
  | [], s => Ext.refl s
  | r :: l, s => (St.via1_ext s r).trans (St.viaL_ext l _)
theorem St.byL_append {f : Nat × Nat} (m : List Rl) : ∀ (l : List Rl) (s : St), St.byL N P K f (l ++ m) s = St.byL N P K f m (St.byL N P K f l s)
  | [], s => rfl
  | x :: l, s => St.byL_append m l _
theorem St.viaL_append {f : Nat × Nat} (m : List Rl) : ∀ (l : List Rl) (s : St), St.viaL N P K f (l ++ m) s = St.viaL N P K f m (St.viaL N P K f l s)
  | [], s => rfl
  | x :: l, s => St.viaL_append m l _
theorem St.byL_take {f : Nat × Nat} (l : List Rl) (s : St) {j : Nat} {x : Rl} (hx : l[j]? = some x) :
    St.byL N P K f (l.take (j + 1)) s = (St.byL N P K f (l.take j) s).by1 N P K f x ∧ Ext ((St.byL N P K f (l.take j) s).by1 N P K f x) (St.byL N P K f l s) := by
  have h1 : l.take (j + 1) = l.take j ++ [x] := by rw [List.take_add_one, hx]; rfl
  have h2 : St.byL N P K f (l.take (j + 1)) s = (St.byL N P K f (l.take j) s).by1 N P K f x := by rw [h1, St.byL_append]; rfl
  refine ⟨h2, ?_⟩
  rw [← h2]
  have h3 : St.byL N P K f l s = St.byL N P K f (l.drop (j + 1)) (St.byL N P K f (l.take (j + 1)) s) := by rw [← St.byL_append, List.take_append_drop]
  rw [h3]
  exact St.byL_ext _ _
theorem St.viaL_take {f : Nat × Nat} (l : List Rl) (s : St) {j : Nat} {x : Rl} (hx : l[j]? = some x) :
    St.viaL N P K f (l.take (j + 1)) s = (St.viaL N P K f (l.take j) s).via1 N P K f x ∧ Ext ((St.viaL N P K f (l.take j) s).via1 N P K f x) (St.viaL N P K f l s) := by
  have h1 : l.take (j + 1) = l.take j ++ [x] := by rw [List.take_add_one, hx]; rfl
  have h2 : St.viaL N P K f (l.take (j + 1)) s = (St.viaL N P K f (l.take j) s).via1 N P K f x := by rw [h1, St.viaL_append]; rfl
  refine ⟨h2, ?_⟩
  rw [← h2]
  have h3 : St.viaL N P K f l s = St.viaL N P K f (l.drop (j + 1)) (St.viaL N P K f (l.take (j + 1)) s) := by rw [← St.viaL_append, List.take_append_drop]
  rw [h3]
  exact St.viaL_ext _ _
end
end Go.Proofs.Ytahnedkdodjomaa
/-
  The maker's add.
-/
set_option linter.unusedVariables false
set_option linter.unusedSimpArgs false
set_option linter.unnecessarySimpa false
namespace Go.Proofs.Ytahnedkdodjomaa
open Go.ChangeShapes Go.WideShapes Go.ChangeAt Go.RowKit Go.Deep SetPlain

/-- What a call may have done to memory. -/
structure SemStep (M : Mk) (vr vr' : Nat → Value) (vq vq' : Value) (W W' : World) : Prop where
  keeps : Keeps (semFp M vr vq) W W'
  fp : ∀ k, semFp M vr' vq' k → semFp M vr vq k ∨ W.heap.size ≤ k
theorem SemStep.refl (M : Mk) (vr : Nat → Value) (vq : Value) (W : World) : SemStep M vr vr vq vq W W := ⟨Keeps.refl _ _, fun k h => .inl h⟩
theorem SemStep.trans {M : Mk} {vr vr' vr2 : Nat → Value} {vq vq' vq2 : Value} {W W' W2 : World} (h : SemStep M vr vr' vq vq' W W') (k : SemStep M vr' vr2 vq' vq2 W' W2) : SemStep M vr vr2 vq vq2 W W2 :=
  ⟨h.keeps.trans_new k.keeps (fun i hi x => (h.fp i x).elim id (fun y => by omega)), fun i x => (k.fp i x).elim (h.fp i) (fun y => .inr (Nat.le_trans h.keeps.size y))⟩
theorem SemStep.quiet {M : Mk} {vr : Nat → Value} {vq : Value} {W W' : World} (h : Keeps (fun _ => False) W W') : SemStep M vr vr vq vq W W' := ⟨h.mono (fun _ _ x => x.elim), fun k x => .inl x⟩
section
variable {W : World} {M : Mk} {vr : Nat → Value} {L : Nat → List Rl} {s : St} {vq : Value}
end
end Go.Proofs.Ytahnedkdodjomaa
/-
  The lowest bit's place by the library's table; List of a family of sets.
-/
set_option linter.unusedVariables false
set_option linter.unusedSimpArgs false
set_option linter.unnecessarySimpa false
namespace Go.Proofs.Ytahnedkdodjomaa
open Go.ChangeShapes Go.WideShapes Go.ChangeAt Go.RowKit Go.Deep SetPlain

def intV (x : Nat) : Value := .int .i64 (x : Int)
def ListPost (l : List Nat) (w : World) (e : Ending) (w' : World) : Prop :=
  ∃ v, e = .returned v ∧ w'.ownsRow w.heap.size 3 1 v l.length (l.map intV) ∧ Below w.heap.size w w'
theorem lIntInfo : (Try.prog.info? 3).map (fun i => (i.zero, i.size, i.bytes)) = some (some (.int .i64 0), 1, 8) := by kernel_rfl

section
variable {w : World} {b bw : Nat} {rb : Nat → Nat} {R C : Nat} {In : Nat → Nat → Bool} {tot : Nat}
end
end Go.Proofs.Ytahnedkdodjomaa
/-
  The maker's all: all in a role are in another one, too.
-/
set_option linter.unusedVariables false
set_option linter.unusedSimpArgs false
set_option linter.unnecessarySimpa false
namespace Go.Proofs.Ytahnedkdodjomaa
open Go.ChangeShapes Go.WideShapes Go.ChangeAt Go.RowKit Go.Deep SetPlain
theorem SemStep.foreign {M : Mk} {vr vr' : Nat → Value} {vq vq' : Value} {W W' : World} (h : SemStep M vr vr' vq vq' W W') {x : Nat} (hx : ¬ semFp M vr vq x) (hl : x < W.heap.size) : W'.heap[x]? = W.heap[x]? ∧ ¬ semFp M vr' vq' x ∧ x < W'.heap.size :=
  ⟨h.keeps.block x hl hx, fun y => (h.fp x y).elim hx (fun z => by omega), Nat.lt_of_lt_of_le hl h.keeps.size⟩
section
variable {W : World} {M : Mk} {vr : Nat → Value} {L : Nat → List Rl} {s : St} {vq : Value}
theorem rowP_at {R : Nat} {In : Nat → Nat → Bool} {i : Nat} (h : i < R) : rowP R In (i : Int) = In i := by unfold rowP; rw [if_pos (by omega)]; rfl
end
end Go.Proofs.Ytahnedkdodjomaa
/-
  The maker's look: what follows of one fact.
-/
set_option linter.unusedVariables false
set_option linter.unusedSimpArgs false
set_option linter.unnecessarySimpa false
namespace Go.Proofs.Ytahnedkdodjomaa
open Go.ChangeShapes Go.WideShapes Go.ChangeAt Go.RowKit Go.Deep SetPlain
def RlAt (W : World) (x : Nat) (r : Rl) : Prop :=
  W.cell? ⟨x, 0, none⟩ = some (.int .i64 r.kind) ∧ W.cell? ⟨x, 1, none⟩ = some (.int .i64 r.head) ∧ W.cell? ⟨x, 2, none⟩ = some (.int .i64 r.who) ∧ W.cell? ⟨x, 3, none⟩ = some (.int .i64 r.a) ∧ W.cell? ⟨x, 4, none⟩ = some (.int .i64 r.b) ∧ W.cell? ⟨x, 5, none⟩ = some (.int .i64 r.via)
def ruleObj (r : Rl) : Obj := .cells #[.int .i64 r.kind, .int .i64 r.head, .int .i64 r.who, .int .i64 r.a, .int .i64 r.b, .int .i64 r.via] 39 (0, 0)
section
variable {W0 W : World} {M : Mk} {vr : Nat → Value} {L : Nat → List Rl} {s : St} {vq0 vq : Value} {x0 x1 : Nat} {f : Nat × Nat} {r : Rl}
/-- What the regions read. -/
def LookS (M : Mk) (x0 : Nat) (f : Nat × Nat) (x1 : Nat) (r : Rl) (W : World) : Prop :=
  (W.cell? ⟨M.mb, 0, none⟩ = some (.pointer (some ⟨M.mo, 0, none⟩)) ∧ W.cell? ⟨M.mo, 0, none⟩ = some (.pointer (some ⟨M.fb, 0, none⟩)) ∧ W.cell? ⟨M.mo, 2, none⟩ = some (.int .i64 M.K)) ∧ (W.cell? ⟨x0, 0, none⟩ = some (.int .i64 f.1) ∧ W.cell? ⟨x0, 1, none⟩ = some (.int .i64 f.2)) ∧ RlAt W x1 r
end
end Go.Proofs.Ytahnedkdodjomaa
/-
  A rule more in a row of a maker's: what memory is like behind the append and the store.
-/
set_option linter.unusedVariables false
set_option linter.unusedSimpArgs false
set_option linter.unnecessarySimpa false
namespace Go.Proofs.Ytahnedkdodjomaa
open Go.ChangeShapes Go.WideShapes Go.ChangeAt Go.RowKit Go.Deep SetPlain
theorem rlInfo : (Try.prog.info? 39).map (fun i => (i.zero, i.size, i.bytes)) = some (some (.agg #[.int .i64 0, .int .i64 0, .int .i64 0, .int .i64 0, .int .i64 0, .int .i64 0]), 6, 48) := by kernel_rfl
def setV (vr : Nat → Value) (g : Nat) (v : Value) : Nat → Value := fun i => if i = g then v else vr i
def addL (L : Nat → List Rl) (g : Nat) (r : Rl) : Nat → List Rl := fun i => if i = g then L i ++ [r] else L i
def rowPlace (M : Mk) (g : Nat) (p : Addr) : Prop := (g < M.N ∧ p = ⟨M.bb, g, none⟩) ∨ (M.N ≤ g ∧ p = ⟨M.vb, g - M.N, none⟩)
/-- What the regions read behind an append. -/
structure PutS (M : Mk) (vr : Nat → Value) (x : Nat) (r : Rl) (W : World) : Prop where
  by_ : W.cell? ⟨M.mb, 1, none⟩ = some (.slice (some ⟨M.bb, 0, none⟩) M.N M.N)
  via_ : W.cell? ⟨M.mb, 2, none⟩ = some (.slice (some ⟨M.vb, 0, none⟩) M.K M.K)
  rule : RlAt W x r
  bc : ∀ i, i < M.N → W.cell? ⟨M.bb, i, none⟩ = some (vr i)
  vc : ∀ i, i < M.K → W.cell? ⟨M.vb, i, none⟩ = some (vr (M.N + i))
  bf : ∀ i, W.frozen? ⟨M.bb, i, none⟩ = false
  vf : ∀ i, W.frozen? ⟨M.vb, i, none⟩ = false
section
variable {W0 W W1 W2 : World} {M : Mk} {vr0 vr : Nat → Value} {L : Nat → List Rl} {s : St} {vq0 vq : Value} {x : Nat} {r : Rl} {g : Nat} {v : Value}
end
end Go.Proofs.Ytahnedkdodjomaa
