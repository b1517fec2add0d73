/-
  Rules and what follows of them: the maker of a model as plain steps. No program in sight.
-/
import Derived.Test.YtckjgefpelnkoaaDoorSetSumTo
import Derived.Test.YtckjgefpelnkoaaDoorSetListPlain
import Derived.Test.YtckjgefpelnkoaaDoorSemMem
set_option linter.unusedVariables false
set_option linter.unusedSimpArgs false
set_option linter.unnecessarySimpa false
namespace Go.Proofs.YtckjgefpelnkoaaDoor
open Go.ChangeShapes Go.WideShapes Go.ChangeAt Go.RowKit Go.Deep SetPlain

def roleB (p k : Int) (i : Int) : Bool := decide (0 ≤ i ∧ i < p * k)
/-- May a rule be? -/
def rightB (p k : Int) (r : Rl) : Bool :=
  decide (0 ≤ p ∧ 0 ≤ k ∧ p ≤ 1000 ∧ k ≤ 1000) && (roleB p k r.head &&
    (if r.kind = 1 then decide (r.a = 0 ∧ r.b = 0 ∧ r.via = 0) && decide (0 ≤ r.who ∧ r.who < p)
     else if r.kind = 4 then roleB p k r.b && (decide (r.who = 0 ∧ r.via = 0) && roleB p k r.a)
     else if r.kind = 2 then decide (r.who = 0 ∧ r.b = 0 ∧ r.via = 0) && roleB p k r.a
     else if r.kind = 3 then decide (r.who = 0 ∧ r.b = 0) && (roleB p k r.a && decide (0 ≤ r.via ∧ r.via < k))
     else false))
/-- What a rule that may be is like. -/
theorem right_iff {P K : Nat} {r : Rl} (h : rightB P K r = true) :
    (0 ≤ r.head ∧ r.head < ((P * K : Nat) : Int)) ∧
    ((r.kind = 1 ∧ 0 ≤ r.who ∧ r.who < P) ∨ (r.kind = 2 ∧ 0 ≤ r.a ∧ r.a < ((P * K : Nat) : Int)) ∨ (r.kind = 3 ∧ 0 ≤ r.a ∧ r.a < ((P * K : Nat) : Int) ∧ 0 ≤ r.via ∧ r.via < K) ∨
      (r.kind = 4 ∧ 0 ≤ r.a ∧ r.a < ((P * K : Nat) : Int) ∧ 0 ≤ r.b ∧ r.b < ((P * K : Nat) : Int))) := by
  unfold rightB roleB at h
  rw [Bool.and_eq_true, Bool.and_eq_true] at h
  obtain ⟨_, h1, h2⟩ := h
  have e : (P : Int) * (K : Int) = ((P * K : Nat) : Int) := by simp
  rw [e] at h1 h2
  refine ⟨by simpa using h1, ?_⟩
  split at h2
  · simp at h2; exact .inl ⟨by assumption, h2.2.1, h2.2.2⟩
  split at h2
  · simp at h2; exact .inr (.inr (.inr ⟨by assumption, by simpa using h2.2.2.1, by simpa using h2.2.2.2, by simpa using h2.1.1, by simpa using h2.1.2⟩))
  split at h2
  · simp at h2; exact .inr (.inl ⟨by assumption, by simpa using h2.2.1, by simpa using h2.2.2⟩)
  split at h2
  · simp at h2; exact .inr (.inr (.inl ⟨by assumption, by simpa using h2.2.1.1, by simpa using h2.2.1.2, h2.2.2.1, h2.2.2.2⟩))
  · cases h2

/-- A maker's state: who is in, how many facts, how many steps, what is to be looked at yet. -/
structure St where
  In : Nat → Nat → Bool
  tot : Nat
  steps : Nat
  q : List (Nat × Nat)
def St.tick (s : St) : St := ⟨s.In, s.tot, s.steps + 1, s.q⟩
def St.add (N P : Nat) (s : St) (role who : Nat) : St :=
  if addB N P s.In role who = true then ⟨addIn N P s.In role who, addTot N P s.In role who s.tot, s.steps + 1, s.q ++ [(role, who)]⟩ else s.tick
def St.addAll (N P : Nat) (dst : Nat) : List Nat → St → St
  | [], s => s
  | x :: l, s => St.addAll N P dst l (s.add N P dst x)
def St.all (N P : Nat) (s : St) (src dst : Nat) : St := St.addAll N P dst (listTo (s.In src) P) s
/-- One rule by one role's fact. -/
def St.by1 (N P K : Nat) (f : Nat × Nat) (s : St) (r : Rl) : St :=
  if r.kind = 2 then s.tick.add N P r.head.toNat f.2
  else if r.kind = 3 then s.tick.all N P (f.2 * K + r.via.toNat) r.head.toNat
  else if r.kind = 4 then if s.In r.a.toNat f.2 && s.In r.b.toNat f.2 then s.tick.add N P r.head.toNat f.2 else s.tick
  else s.tick
def St.via1 (N P K : Nat) (f : Nat × Nat) (s : St) (r : Rl) : St :=
  if s.In r.a.toNat (f.1 / K) then s.tick.add N P r.head.toNat f.2 else s.tick
def St.byL (N P K : Nat) (f : Nat × Nat) : List Rl → St → St
  | [], s => s
  | r :: l, s => St.byL N P K f l (s.by1 N P K f r)
def St.viaL (N P K : Nat) (f : Nat × Nat) : List Rl → St → St
  | [], s => s
  | r :: l, s => St.viaL N P K f l (s.via1 N P K f r)
def St.look (N P K : Nat) (L : Nat → List Rl) (s : St) (f : Nat × Nat) : St := St.viaL N P K f (L (N + f.1 % K)) (St.byL N P K f (L f.1) s)
def St.put (N P : Nat) (s : St) (r : Rl) : St := if r.kind = 1 then s.tick.add N P r.head.toNat r.who.toNat else s.tick
def St.putL (N P : Nat) : List Rl → St → St
  | [], s => s
  | r :: l, s => St.putL N P l (s.put N P r)
def St.zero : St := ⟨fun _ _ => false, 0, 0, []⟩
/-- Is a rule kept in a row? -/
def keepB (N : Nat) (r : Rl) (i : Nat) : Bool :=
  if i < N then (decide (r.kind = 2 ∨ r.kind = 3 ∨ r.kind = 4) && decide (r.a = i)) || (decide (r.kind = 4) && decide (r.b = i)) else decide (r.kind = 3) && decide (r.via + N = i)
def putRow (N : Nat) (r : Rl) (L : Nat → List Rl) : Nat → List Rl := fun i => if keepB N r i = true then L i ++ [r] else L i
def keptL (N : Nat) (rs : List Rl) : Nat → List Rl := fun i => rs.filter (fun r => keepB N r i)
theorem keptL_snoc (N : Nat) (rs : List Rl) (r : Rl) : keptL N (rs ++ [r]) = putRow N r (keptL N rs) := by
  funext i
  unfold keptL putRow
  rw [List.filter_append]
  by_cases h : keepB N r i = true
  · rw [if_pos h]; simp [h]
  · rw [if_neg h]; simp [h]
theorem keptL_len (N : Nat) (rs : List Rl) (i : Nat) : (keptL N rs i).length ≤ rs.length := List.length_filter_le _ _

/-- What follows of rules. -/
inductive Der (K : Nat) (rs : List Rl) : Nat → Nat → Prop
  | mem (r : Rl) : r ∈ rs → r.kind = 1 → Der K rs r.head.toNat r.who.toNat
  | incl (r : Rl) (c : Nat) : r ∈ rs → r.kind = 2 → Der K rs r.a.toNat c → Der K rs r.head.toNat c
  | link (r : Rl) (x c : Nat) : r ∈ rs → r.kind = 3 → Der K rs r.a.toNat x → Der K rs (x * K + r.via.toNat) c → Der K rs r.head.toNat c
  | both (r : Rl) (c : Nat) : r ∈ rs → r.kind = 4 → Der K rs r.a.toNat c → Der K rs r.b.toNat c → Der K rs r.head.toNat c
theorem Der.mono {K : Nat} {rs ss : List Rl} (h : ∀ r, r ∈ rs → r ∈ ss) {i c : Nat} (d : Der K rs i c) : Der K ss i c := by
  induction d with
  | mem r h1 h2 => exact .mem r (h r h1) h2
  | incl r c h1 h2 _ i1 => exact .incl r c (h r h1) h2 i1
  | link r x c h1 h2 _ _ i1 i2 => exact .link r x c (h r h1) h2 i1 i2
  | both r c h1 h2 _ _ i1 i2 => exact .both r c (h r h1) h2 i1 i2

/-- One state behind another. -/
structure Ext (s t : St) : Prop where
  steps : s.steps ≤ t.steps
  tot : s.tot ≤ t.tot
  len : s.q.length ≤ t.q.length
  bal : s.tot + t.q.length = t.tot + s.q.length
  mono : ∀ i c, s.In i c = true → t.In i c = true
  new : ∀ i c, t.In i c = true → s.In i c = true ∨ (i, c) ∈ t.q
  sub : ∀ f, f ∈ s.q → f ∈ t.q
theorem Ext.refl (s : St) : Ext s s := ⟨Nat.le_refl _, Nat.le_refl _, Nat.le_refl _, rfl, fun _ _ h => h, fun _ _ h => .inl h, fun _ h => h⟩
theorem Ext.trans {s t u : St} (h : Ext s t) (k : Ext t u) : Ext s u :=
  ⟨Nat.le_trans h.steps k.steps, Nat.le_trans h.tot k.tot, Nat.le_trans h.len k.len, by have := h.bal; have := k.bal; omega, fun i c x => k.mono i c (h.mono i c x),
    fun i c x => (k.new i c x).elim (fun y => (h.new i c y).imp id (k.sub _)) .inr, fun f x => k.sub f (h.sub f x)⟩
theorem Ext.tick (s : St) : Ext s s.tick := ⟨Nat.le_succ _, Nat.le_refl _, Nat.le_refl _, rfl, fun _ _ h => h, fun _ _ h => .inl h, fun _ h => h⟩
/-- All in a state follows, lies where it may, and is counted. -/
structure Good (N P K : Nat) (rs : List Rl) (s : St) : Prop where
  snd : ∀ i c, s.In i c = true → Der K rs i c
  out : ∀ i c, s.In i c = true → i < N ∧ c < P
  que : ∀ f, f ∈ s.q → s.In f.1 f.2 = true
  tot : s.tot = sumTo (fun a => cnt (s.In a) P) N
section
variable {N P K : Nat} {rs : List Rl} {s : St}
theorem Good.tick (h : Good N P K rs s) : Good N P K rs s.tick := ⟨h.snd, h.out, h.que, h.tot⟩
theorem Good.zero : Good N P K rs St.zero := ⟨fun _ _ h => (by cases h), fun _ _ h => (by cases h), fun _ h => (by cases h), by
  show 0 = sumTo (fun a => cnt (fun _ => false) P) N
  have : ∀ n, sumTo (fun a => cnt (fun _ => false) P) n = 0 := fun n => by
    induction n with
    | zero => rfl
    | succ n ih => show sumTo _ n + cnt (fun _ => false) P = 0; rw [ih, cnt_none _ _ (fun _ _ => rfl)]
  exact (this N).symm⟩
theorem Good.tot_le (h : Good N P K rs s) : s.tot ≤ P * N := by
  rw [h.tot]
  exact sumTo_le (fun a => cnt_le _ _) N
theorem St.add_good (h : Good N P K rs s) {role who : Nat} (hd : Der K rs role who) :
    Good N P K rs (s.add N P role who) ∧ Ext s (s.add N P role who) ∧ (s.add N P role who).steps = s.steps + 1 ∧ (role < N → who < P → (s.add N P role who).In role who = true) := by
  unfold St.add
  cases hb : addB N P s.In role who with
  | true =>
    rw [if_pos rfl]
    obtain ⟨a, m, ha, hm, h1, h2, h3⟩ := addB_iff.1 hb
    obtain rfl : role = a := by omega
    obtain rfl : who = m := by omega
    have hin : ∀ i c, addIn N P s.In role who i c = true ↔ s.In i c = true ∨ (i, c) = (role, who) := fun i c => by
      unfold addIn
      rw [if_pos hb]
      show (if i = role then upd (s.In i) who else s.In i) c = true ↔ _
      by_cases hi : i = role
      · subst hi
        rw [if_pos rfl]
        show (decide (c = who) || s.In i c) = true ↔ _
        simp [or_comm]
      · rw [if_neg hi]; simp [hi]
    have ht : addTot N P s.In role who s.tot = s.tot + 1 := by unfold addTot; rw [if_pos hb]
    refine ⟨⟨fun i c x => ?_, fun i c x => ?_, fun f x => ?_, addTot_sum h.tot⟩, ⟨Nat.le_succ _, ?_, ?_, ?_, fun i c x => (hin i c).2 (.inl x), fun i c x => ?_, fun f x => List.mem_append_left _ x⟩, rfl, fun _ _ => (hin role who).2 (.inr rfl)⟩
    · rcases (hin i c).1 x with y | y
      · exact h.snd i c y
      · cases y; exact hd
    · rcases (hin i c).1 x with y | y
      · exact h.out i c y
      · cases y; exact ⟨h1, h2⟩
    · rcases List.mem_append.1 x with y | y
      · exact (hin _ _).2 (.inl (h.que f y))
      · rw [List.mem_singleton] at y; subst y; exact (hin _ _).2 (.inr rfl)
    · show s.tot ≤ addTot N P s.In role who s.tot; omega
    · show s.q.length ≤ (s.q ++ [(role, who)]).length; simp
    · show s.tot + (s.q ++ [(role, who)]).length = addTot N P s.In role who s.tot + s.q.length
      rw [ht]; simp; omega
    · rcases (hin i c).1 x with y | y
      · exact .inl y
      · rw [y]; exact .inr (List.mem_append_right _ (List.mem_singleton.2 rfl))
  | false =>
    rw [if_neg (by simp)]
    refine ⟨h.tick, Ext.tick s, rfl, fun h1 h2 => ?_⟩
    show s.In role who = true
    cases hi : s.In role who with
    | true => rfl
    | false =>
      have := (addB_iff (R := N) (C := P) (In := s.In) (i := role) (c := who)).2 ⟨role, who, rfl, rfl, h1, h2, hi⟩
      rw [this] at hb; cases hb
theorem St.addAll_good {dst : Nat} : ∀ (l : List Nat) (s : St), Good N P K rs s → (∀ x, x ∈ l → Der K rs dst x) →
    Good N P K rs (St.addAll N P dst l s) ∧ Ext s (St.addAll N P dst l s) ∧ (St.addAll N P dst l s).steps = s.steps + l.length ∧ (∀ x, x ∈ l → dst < N → x < P → (St.addAll N P dst l s).In dst x = true)
  | [], s, h, _ => ⟨h, Ext.refl s, rfl, fun x hx => (by cases hx)⟩
  | y :: l, s, h, hd => by
    obtain ⟨g1, e1, t1, i1⟩ := St.add_good h (hd y (List.mem_cons_self ..))
    obtain ⟨g2, e2, t2, i2⟩ := St.addAll_good l _ g1 (fun x hx => hd x (List.mem_cons_of_mem _ hx))
    refine ⟨g2, e1.trans e2, ?_, fun x hx h1 h2 => ?_⟩
    · show (St.addAll N P dst l (s.add N P dst y)).steps = _
      rw [t2, t1, List.length_cons]; omega
    · rcases List.mem_cons.1 hx with rfl | hx
      · exact e2.mono _ _ (i1 h1 h2)
      · exact i2 x hx h1 h2
theorem listTo_mem {p : Nat → Bool} {x : Nat} : ∀ n, x < n → p x = true → x ∈ listTo p n
  | 0, h, _ => absurd h (Nat.not_lt_zero _)
  | n + 1, h, hp => by
    unfold listTo
    rcases Nat.lt_or_ge x n with h1 | h1
    · have := listTo_mem n h1 hp
      split
      · exact List.mem_append_left _ this
      · first | exact this | (simp; exact this)
    · obtain rfl : x = n := by omega
      simp [hp]
theorem nat_of {a : Int} {n : Nat} (h0 : 0 ≤ a) (h1 : a < n) : a.toNat < n := by omega
theorem St.all_good (h : Good N P K rs s) {src dst : Nat} (hd : ∀ x, Der K rs src x → Der K rs dst x) :
    Good N P K rs (s.all N P src dst) ∧ Ext s (s.all N P src dst) ∧ (s.all N P src dst).steps ≤ s.steps + P ∧ (dst < N → ∀ x, s.In src x = true → (s.all N P src dst).In dst x = true) := by
  obtain ⟨g, e, t, i⟩ := St.addAll_good (dst := dst) (listTo (s.In src) P) s h (fun x hx => hd x (h.snd _ _ (listTo_lt _ _ x hx).2))
  refine ⟨g, e, ?_, fun h1 x hx => ?_⟩
  · show (St.addAll N P dst (listTo (s.In src) P) s).steps ≤ _
    rw [t, listTo_len]
    have := cnt_le (s.In src) P
    omega
  · have := (h.out _ _ hx).2
    exact i x (listTo_mem P this hx) h1 this
/-- What one rule of a role's row must have brought. -/
def Did1 (K : Nat) (f : Nat × Nat) (s t : St) (r : Rl) : Prop :=
  (r.kind = 2 → t.In r.head.toNat f.2 = true) ∧ (r.kind = 3 → ∀ c, s.In (f.2 * K + r.via.toNat) c = true → t.In r.head.toNat c = true) ∧
  (r.kind = 4 → s.In r.a.toNat f.2 = true → s.In r.b.toNat f.2 = true → t.In r.head.toNat f.2 = true)
def Did2 (K : Nat) (f : Nat × Nat) (s t : St) (r : Rl) : Prop := s.In r.a.toNat (f.1 / K) = true → t.In r.head.toNat f.2 = true
theorem keep_by {N : Nat} {r : Rl} {i : Nat} (hi : i < N) (h : keepB N r i = true) : (r.kind = 2 ∧ r.a = i) ∨ (r.kind = 3 ∧ r.a = i) ∨ (r.kind = 4 ∧ (r.a = i ∨ r.b = i)) := by
  unfold keepB at h
  rw [if_pos hi] at h
  simp at h
  omega
theorem keep_via {N : Nat} {r : Rl} {v : Nat} (h : keepB N r (N + v) = true) : r.kind = 3 ∧ r.via = v := by
  unfold keepB at h
  rw [if_neg (by omega)] at h
  simp at h
  omega
theorem St.by1_good {P : Nat} (hN : N = P * K) (h : Good N P K rs s) {f : Nat × Nat} (hf1 : f.1 < N) (hf2 : f.2 < P) (hf : s.In f.1 f.2 = true) {r : Rl} (hr : r ∈ rs) (hR : rightB P K r = true) (hk : keepB N r f.1 = true) :
    Good N P K rs (s.by1 N P K f r) ∧ Ext s (s.by1 N P K f r) ∧ (s.by1 N P K f r).steps ≤ s.steps + 1 + P ∧ Did1 K f s (s.by1 N P K f r) r := by
  obtain ⟨⟨hh0, hh1⟩, _⟩ := right_iff hR
  rw [← hN] at hh1
  have hh : r.head.toNat < N := by omega
  have hd := h.snd _ _ hf
  have hP1 : 1 ≤ P := by omega
  unfold St.by1
  rcases keep_by hf1 hk with ⟨k2, ha⟩ | ⟨k3, ha⟩ | ⟨k4, ha⟩
  · rw [if_pos k2]
    obtain ⟨g, e, t, i⟩ := St.add_good (s := s.tick) h.tick (role := r.head.toNat) (who := f.2) (.incl r f.2 hr k2 (by rw [ha]; exact hd))
    refine ⟨g, (Ext.tick s).trans e, ?_, fun _ => i hh hf2, fun k => absurd k (by omega), fun k => absurd k (by omega)⟩
    rw [t]; show s.steps + 1 + 1 ≤ _; omega
  · rw [if_neg (by omega), if_pos k3]
    obtain ⟨g, e, t, i⟩ := St.all_good (s := s.tick) h.tick (src := f.2 * K + r.via.toNat) (dst := r.head.toNat) (fun x hx => .link r f.2 x hr k3 (by rw [ha]; exact hd) hx)
    exact ⟨g, (Ext.tick s).trans e, t, fun k => absurd k (by omega), fun _ c hc => i hh c hc, fun k => absurd k (by omega)⟩
  · rw [if_neg (by omega), if_neg (by omega), if_pos k4]
    cases hab : s.In r.a.toNat f.2 && s.In r.b.toNat f.2 with
    | true =>
      rw [if_pos rfl]
      rw [Bool.and_eq_true] at hab
      obtain ⟨g, e, t, i⟩ := St.add_good (s := s.tick) h.tick (role := r.head.toNat) (who := f.2) (.both r f.2 hr k4 (h.snd _ _ hab.1) (h.snd _ _ hab.2))
      refine ⟨g, (Ext.tick s).trans e, ?_, fun k => absurd k (by omega), fun k => absurd k (by omega), fun _ _ _ => i hh hf2⟩
      rw [t]; show s.steps + 1 + 1 ≤ _; omega
    | false =>
      rw [if_neg (by simp)]
      refine ⟨h.tick, Ext.tick s, by show s.steps + 1 ≤ _; omega, fun k => absurd k (by omega), fun k => absurd k (by omega), fun _ h1 h2 => ?_⟩
      rw [h1, h2] at hab; cases hab
theorem Did1.up {f : Nat × Nat} {s s' t t' : St} {r : Rl} (h : Did1 K f s t r) (e : Ext s' s) (e2 : Ext t t') : Did1 K f s' t' r :=
  ⟨fun k => e2.mono _ _ (h.1 k), fun k c hc => e2.mono _ _ (h.2.1 k c (e.mono _ _ hc)), fun k h1 h2 => e2.mono _ _ (h.2.2 k (e.mono _ _ h1) (e.mono _ _ h2))⟩
theorem St.byL_good {P : Nat} (hN : N = P * K) {f : Nat × Nat} (hf1 : f.1 < N) (hf2 : f.2 < P) : ∀ (l : List Rl) (s : St), Good N P K rs s → s.In f.1 f.2 = true → (∀ r, r ∈ l → r ∈ rs ∧ rightB P K r = true ∧ keepB N r f.1 = true) →
    Good N P K rs (St.byL N P K f l s) ∧ Ext s (St.byL N P K f l s) ∧ (St.byL N P K f l s).steps ≤ s.steps + l.length * (1 + P) ∧ (∀ r, r ∈ l → Did1 K f s (St.byL N P K f l s) r)
  | [], s, h, _, _ => ⟨h, Ext.refl s, Nat.le_add_right _ _, fun r hr => (by cases hr)⟩
  | r :: l, s, h, hf, hl => by
    obtain ⟨m1, m2, m3⟩ := hl r (List.mem_cons_self ..)
    obtain ⟨g1, e1, t1, d1⟩ := St.by1_good hN h hf1 hf2 hf m1 m2 m3
    obtain ⟨g2, e2, t2, d2⟩ := St.byL_good hN hf1 hf2 l _ g1 (e1.mono _ _ hf) (fun x hx => hl x (List.mem_cons_of_mem _ hx))
    refine ⟨g2, e1.trans e2, ?_, fun x hx => ?_⟩
    · show (St.byL N P K f l (s.by1 N P K f r)).steps ≤ _
      rw [List.length_cons, Nat.succ_mul]; omega
    · rcases List.mem_cons.1 hx with rfl | hx
      · exact d1.up (Ext.refl _) e2
      · exact (d2 x hx).up e1 (Ext.refl _)
theorem St.via1_good {P : Nat} (hN : N = P * K) (hK : 0 < K) (h : Good N P K rs s) {f : Nat × Nat} (hf1 : f.1 < N) (hf2 : f.2 < P) (hf : s.In f.1 f.2 = true) {r : Rl} (hr : r ∈ rs) (hR : rightB P K r = true) (hk : keepB N r (N + f.1 % K) = true) :
    Good N P K rs (s.via1 N P K f r) ∧ Ext s (s.via1 N P K f r) ∧ (s.via1 N P K f r).steps ≤ s.steps + 2 ∧ Did2 K f s (s.via1 N P K f r) r := by
  obtain ⟨⟨hh0, hh1⟩, _⟩ := right_iff hR
  rw [← hN] at hh1
  have hh : r.head.toNat < N := by omega
  have hd := h.snd _ _ hf
  obtain ⟨k3, hv⟩ := keep_via hk
  have hfd : f.1 / K * K + r.via.toNat = f.1 := by
    rw [hv, Int.toNat_natCast, Nat.mul_comm]; exact Nat.div_add_mod f.1 K
  unfold St.via1
  cases ha : s.In r.a.toNat (f.1 / K) with
  | true =>
    rw [if_pos rfl]
    obtain ⟨g, e, t, i⟩ := St.add_good (s := s.tick) h.tick (role := r.head.toNat) (who := f.2) (.link r (f.1 / K) f.2 hr k3 (h.snd _ _ ha) (by rw [hfd]; exact hd))
    exact ⟨g, (Ext.tick s).trans e, by rw [t]; exact Nat.le_refl _, fun _ => i hh hf2⟩
  | false =>
    rw [if_neg (by simp)]
    exact ⟨h.tick, Ext.tick s, by show s.steps + 1 ≤ _; omega, fun k => by rw [k] at ha; cases ha⟩
theorem St.viaL_good {P : Nat} (hN : N = P * K) (hK : 0 < K) {f : Nat × Nat} (hf1 : f.1 < N) (hf2 : f.2 < P) : ∀ (l : List Rl) (s : St), Good N P K rs s → s.In f.1 f.2 = true → (∀ r, r ∈ l → r ∈ rs ∧ rightB P K r = true ∧ keepB N r (N + f.1 % K) = true) →
    Good N P K rs (St.viaL N P K f l s) ∧ Ext s (St.viaL N P K f l s) ∧ (St.viaL N P K f l s).steps ≤ s.steps + l.length * 2 ∧ (∀ r, r ∈ l → Did2 K f s (St.viaL N P K f l s) r)
  | [], s, h, _, _ => ⟨h, Ext.refl s, Nat.le_add_right _ _, fun r hr => (by cases hr)⟩
  | r :: l, s, h, hf, hl => by
    obtain ⟨m1, m2, m3⟩ := hl r (List.mem_cons_self ..)
    obtain ⟨g1, e1, t1, d1⟩ := St.via1_good hN hK h hf1 hf2 hf m1 m2 m3
    obtain ⟨g2, e2, t2, d2⟩ := St.viaL_good hN hK hf1 hf2 l _ g1 (e1.mono _ _ hf) (fun x hx => hl x (List.mem_cons_of_mem _ hx))
    refine ⟨g2, e1.trans e2, ?_, fun x hx => ?_⟩
    · show (St.viaL N P K f l (s.via1 N P K f r)).steps ≤ _
      rw [List.length_cons, Nat.succ_mul]; omega
    · rcases List.mem_cons.1 hx with rfl | hx
      · exact fun k => e2.mono _ _ (d1 k)
      · exact fun k => d2 x hx (e1.mono _ _ k)
theorem St.look_good {P : Nat} (hN : N = P * K) (hK : 0 < K) (hrs : ∀ r, r ∈ rs → rightB P K r = true) (h : Good N P K rs s) {f : Nat × Nat} (hf1 : f.1 < N) (hf2 : f.2 < P) (hf : s.In f.1 f.2 = true) :
    Good N P K rs (s.look N P K (keptL N rs) f) ∧ Ext s (s.look N P K (keptL N rs) f) ∧ (s.look N P K (keptL N rs) f).steps ≤ s.steps + rs.length * (3 + P) ∧
    (∀ r, r ∈ rs → keepB N r f.1 = true → Did1 K f s (s.look N P K (keptL N rs) f) r) ∧ (∀ r, r ∈ rs → keepB N r (N + f.1 % K) = true → Did2 K f s (s.look N P K (keptL N rs) f) r) := by
  have hm : ∀ i r, r ∈ keptL N rs i → r ∈ rs ∧ rightB P K r = true ∧ keepB N r i = true := fun i r hr => by
    obtain ⟨h1, h2⟩ := List.mem_filter.1 hr
    exact ⟨h1, hrs r h1, h2⟩
  obtain ⟨g1, e1, t1, d1⟩ := St.byL_good hN hf1 hf2 (keptL N rs f.1) s h hf (hm _)
  obtain ⟨g2, e2, t2, d2⟩ := St.viaL_good hN hK hf1 hf2 (keptL N rs (N + f.1 % K)) _ g1 (e1.mono _ _ hf) (hm _)
  refine ⟨g2, e1.trans e2, ?_, fun r hr hk => (d1 r (List.mem_filter.2 ⟨hr, hk⟩)).up (Ext.refl _) e2, fun r hr hk a => d2 r (List.mem_filter.2 ⟨hr, hk⟩) (e1.mono _ _ a)⟩
  have l1 := keptL_len N rs f.1
  have l2 := keptL_len N rs (N + f.1 % K)
  have l3 := Nat.mul_le_mul_right (1 + P) l1
  unfold St.look
  rw [show 3 + P = (1 + P) + 2 from by omega, Nat.mul_add]
  omega
/-- What was looked at has brought all that follows. -/
structure Closed (K : Nat) (rs : List Rl) (s : St) : Prop where
  mem : ∀ r, r ∈ rs → r.kind = 1 → s.In r.head.toNat r.who.toNat = true
  incl : ∀ r, r ∈ rs → r.kind = 2 → ∀ c, s.In r.a.toNat c = true → (r.a.toNat, c) ∉ s.q → s.In r.head.toNat c = true
  link : ∀ r, r ∈ rs → r.kind = 3 → ∀ x c, s.In r.a.toNat x = true → (r.a.toNat, x) ∉ s.q → s.In (x * K + r.via.toNat) c = true → (x * K + r.via.toNat, c) ∉ s.q → s.In r.head.toNat c = true
  both : ∀ r, r ∈ rs → r.kind = 4 → ∀ c, s.In r.a.toNat c = true → (r.a.toNat, c) ∉ s.q → s.In r.b.toNat c = true → (r.b.toNat, c) ∉ s.q → s.In r.head.toNat c = true
theorem Closed.all (h : Closed K rs s) (hq : s.q = []) {i c : Nat} (d : Der K rs i c) : s.In i c = true := by
  have hn : ∀ f : Nat × Nat, f ∉ s.q := fun f hf => by rw [hq] at hf; cases hf
  induction d with
  | mem r h1 h2 => exact h.mem r h1 h2
  | incl r c h1 h2 _ i1 => exact h.incl r h1 h2 c i1 (hn _)
  | link r x c h1 h2 _ _ i1 i2 => exact h.link r h1 h2 x c i1 (hn _) i2 (hn _)
  | both r c h1 h2 _ _ i1 i2 => exact h.both r h1 h2 c i1 (hn _) i2 (hn _)
theorem St.look_closed {P : Nat} (hN : N = P * K) (hK : 0 < K) (hrs : ∀ r, r ∈ rs → rightB P K r = true) {f : Nat × Nat} {q : List (Nat × Nat)} {In : Nat → Nat → Bool} {tot steps : Nat}
    (h : Good N P K rs ⟨In, tot, steps, f :: q⟩) (hc : Closed K rs ⟨In, tot, steps, f :: q⟩) : Closed K rs (St.look N P K (keptL N rs) ⟨In, tot, steps, q⟩ f) := by
  have hf : In f.1 f.2 = true := h.que f (List.mem_cons_self ..)
  obtain ⟨hf1, hf2⟩ := h.out _ _ hf
  have h0 : Good N P K rs ⟨In, tot, steps, q⟩ := ⟨h.snd, h.out, fun x hx => h.que x (List.mem_cons_of_mem _ hx), h.tot⟩
  obtain ⟨g, e, _, d1, d2⟩ := St.look_good hN hK hrs h0 hf1 hf2 hf
  obtain ⟨t, ht⟩ : ∃ t, St.look N P K (keptL N rs) ⟨In, tot, steps, q⟩ f = t := ⟨_, rfl⟩
  rw [ht] at g e d1 d2 ⊢
  have hold : ∀ i c, t.In i c = true → (i, c) ∉ t.q → In i c = true ∧ ((i, c) = f ∨ (i, c) ∉ f :: q) := fun i c h1 h2 => by
    rcases e.new i c h1 with h3 | h3
    · refine ⟨h3, ?_⟩
      by_cases hef : (i, c) = f
      · exact .inl hef
      · right
        intro hm
        rcases List.mem_cons.1 hm with h4 | h4
        · exact hef h4
        · exact h2 (e.sub _ h4)
    · exact absurd h3 h2
  have up := e.mono
  have ka : ∀ (r : Rl) (i : Nat), 0 ≤ r.a → r.a.toNat = i → r.a = (i : Int) := fun r i h0 h1 => by omega
  have kb : ∀ (r : Rl) (i : Nat), 0 ≤ r.b → r.b.toNat = i → r.b = (i : Int) := fun r i h0 h1 => by omega
  refine ⟨fun r hr k => up _ _ (hc.mem r hr k), fun r hr k c h1 h2 => ?_, fun r hr k x c h1 h2 h3 h4 => ?_, fun r hr k c h1 h2 h3 h4 => ?_⟩
  · obtain ⟨_, hcase⟩ := right_iff (hrs r hr)
    obtain ⟨n1, n2⟩ := hold _ _ h1 h2
    rcases n2 with n2 | n2
    · subst n2
      refine (d1 r hr ?_).1 k
      unfold keepB
      rw [if_pos hf1]
      have : r.a = (r.a.toNat : Int) := by omega
      simp [k]; omega
    · exact up _ _ (hc.incl r hr k c n1 n2)
  · obtain ⟨_, hcase⟩ := right_iff (hrs r hr)
    obtain ⟨n1, n2⟩ := hold _ _ h1 h2
    obtain ⟨m1, m2⟩ := hold _ _ h3 h4
    rcases m2 with m2 | m2
    · subst m2
      have hv : r.via.toNat < K := by omega
      refine d2 r hr ?_ ?_
      · unfold keepB
        rw [if_neg (by omega)]
        simp only [Nat.mul_add_mod', Nat.mod_eq_of_lt hv]
        simp [k]; omega
      · show In r.a.toNat ((x * K + r.via.toNat) / K) = true
        rw [Nat.add_comm, Nat.add_mul_div_right _ _ hK, Nat.div_eq_of_lt hv, Nat.zero_add]
        exact n1
    rcases n2 with n2 | n2
    · subst n2
      refine (d1 r hr ?_).2.1 k c m1
      unfold keepB
      rw [if_pos hf1]
      simp [k]; omega
    · exact up _ _ (hc.link r hr k x c n1 n2 m1 m2)
  · obtain ⟨_, hcase⟩ := right_iff (hrs r hr)
    obtain ⟨n1, n2⟩ := hold _ _ h1 h2
    obtain ⟨m1, m2⟩ := hold _ _ h3 h4
    rcases n2 with n2 | n2
    · subst n2
      refine (d1 r hr ?_).2.2 k n1 m1
      unfold keepB
      rw [if_pos hf1]
      simp [k]; omega
    rcases m2 with m2 | m2
    · subst m2
      refine (d1 r hr ?_).2.2 k n1 m1
      unfold keepB
      rw [if_pos hf1]
      simp [k]; omega
    · exact up _ _ (hc.both r hr k c n1 n2 m1 m2)
end
end Go.Proofs.YtckjgefpelnkoaaDoor
