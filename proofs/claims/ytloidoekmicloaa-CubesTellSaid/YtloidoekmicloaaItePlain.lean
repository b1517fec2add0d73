/-
  If-then-else of diagrams as plain steps: what it makes, what it says, how much it makes. No program in sight.
-/
import Derived.Test.YtloidoekmicloaaNodeMake
import Derived.Test.YtloidoekmicloaaMC
set_option linter.unusedVariables false
set_option linter.unusedSimpArgs false
set_option linter.unnecessarySimpa false
namespace Go.Proofs.Ytloidoekmicloaa
open Go.ChangeShapes Go.WideShapes Go.ChangeAt Go.RowKit Go.Deep NodePlain
/-- Nodes more. -/
structure Ext (L : Nat → Nd) (n : Nat) (L' : Nat → Nd) (n' : Nat) : Prop where
  le : n ≤ n'
  eq : ∀ i, i < n → L i = L' i
theorem Ext.refl (L : Nat → Nd) (n : Nat) : Ext L n L n := ⟨Nat.le_refl _, fun _ _ => rfl⟩
theorem Ext.trans {L L1 L2 : Nat → Nd} {n n1 n2 : Nat} (h : Ext L n L1 n1) (k : Ext L1 n1 L2 n2) : Ext L n L2 n2 := ⟨Nat.le_trans h.le k.le, fun i hi => (h.eq i hi).trans (k.eq i (Nat.lt_of_lt_of_le hi h.le))⟩
section
variable {V B : Int} {L L' : Nat → Nd} {n n' : Nat}
theorem var_eq (he : ∀ i, i < n → L i = L' i) (k : Int) : varN V L' n k = varN V L n k := by
  unfold varN
  split
  · rw [he _ (by omega)]
  · rfl
theorem good_congr (g : NodePlain.Good V L n) (he : ∀ i, i < n → L i = L' i) : NodePlain.Good V L' n := by
  refine ⟨fun i hi => ?_, fun a b ha hb h => g.inj a b ha hb (by rw [he a ha, he b hb]; exact h)⟩
  rw [← he i hi, var_eq he, var_eq he]
  exact g.node i hi
theorem Ext.var (h : Ext L n L' n') {k : Int} (hk : k < n + 2) : varN V L' n' k = varN V L n k := by
  have := h.le
  unfold varN
  by_cases h2 : 2 ≤ k
  · rw [if_pos ⟨h2, by omega⟩, if_pos ⟨h2, hk⟩, h.eq _ (by omega)]
  · rw [if_neg (by omega), if_neg (by omega)]
theorem Ext.ev (h : Ext L n L' n') (g : NodePlain.Good V L n) (β : Nat → Bool) {k : Int} (hk : k < n + 2) : ev L' β k = ev L β k := (ev_congr g (good_congr g h.eq) h.eq β k hk).symm
theorem isN_iff {k : Int} : isN n k = true ↔ 0 ≤ k ∧ k < n + 2 := by simp [isN]
theorem Ext.is (h : Ext L n L' n') {k : Int} (hk : isN n k = true) : isN n' k = true := by
  have := h.le
  rw [isN_iff] at hk ⊢
  omega
/-- A diagram where a variable is so. -/
def halfN (L : Nat → Nd) (n : Nat) (f v : Int) (hi : Bool) : Int := match getN L n f with
  | some x => if x.1 = v then (if hi = true then x.2.2 else x.2.1) else f
  | none => f
theorem half_ext (h : Ext L n L' n') {f : Int} (hf : f < n + 2) (v : Int) (hi : Bool) : halfN L' n' f v hi = halfN L n f v hi := by
  have := h.le
  unfold halfN getN
  by_cases h2 : 2 ≤ f
  · rw [if_pos ⟨h2, by omega⟩, if_pos ⟨h2, hf⟩, h.eq _ (by omega)]
  · rw [if_neg (by omega), if_neg (by omega)]
theorem half_ok (g : NodePlain.Good V L n) {f v : Int} (hf : isN n f = true) (hv : v ≤ varN V L n f) (hv0 : 0 ≤ v) (hV : v < V) (hi : Bool) :
    isN n (halfN L n f v hi) = true ∧ v < varN V L n (halfN L n f v hi) ∧ (∀ β : Nat → Bool, β v.toNat = hi → ev L β f = ev L β (halfN L n f v hi)) := by
  rw [isN_iff] at hf
  unfold halfN getN
  by_cases h2 : 2 ≤ f
  · obtain ⟨m, rfl⟩ : ∃ m : Nat, f = m + 2 := ⟨(f - 2).toNat, by omega⟩
    have hm : m < n := by omega
    rw [if_pos ⟨h2, hf.2⟩, show ((m : Int) + 2 - 2).toNat = m by omega]
    rw [var_node hm] at hv
    obtain ⟨p1, p2, p3, p4, p5, p6, p7, p8, _⟩ := g.node m hm
    simp only []
    by_cases he : (L m).1 = v
    · rw [if_pos he]
      cases hi with
      | true =>
        rw [if_pos rfl]
        refine ⟨isN_iff.2 ⟨p5, by omega⟩, by omega, fun β hβ => ?_⟩
        rw [ev_node g β m hm, he, hβ, if_pos rfl]
      | false =>
        rw [if_neg (by decide)]
        refine ⟨isN_iff.2 ⟨p3, by omega⟩, by omega, fun β hβ => ?_⟩
        rw [ev_node g β m hm, he, hβ, if_neg (by decide)]
    · rw [if_neg he]
      exact ⟨isN_iff.2 hf, by rw [var_node hm]; omega, fun _ _ => rfl⟩
  · rw [if_neg (by omega)]
    refine ⟨isN_iff.2 hf, ?_, fun _ _ => rfl⟩
    show v < varN V L n f
    unfold varN
    rw [if_neg (by omega)]
    exact hV
/-- What Make comes to. -/
theorem make_ok (g : NodePlain.Good V L n) {v lo hi : Int} (hf : fitN V L n v lo hi = true) :
    NodePlain.Good V ((resN V B L n v lo hi).nodes L n (v, lo, hi)) ((resN V B L n v lo hi).len n) ∧ Ext L n ((resN V B L n v lo hi).nodes L n (v, lo, hi)) ((resN V B L n v lo hi).len n) ∧ (resN V B L n v lo hi).len n ≤ n + 1 ∧
      isN ((resN V B L n v lo hi).len n) ((resN V B L n v lo hi).num n lo) = true ∧
      ((resN V B L n v lo hi).out false = false → v ≤ varN V ((resN V B L n v lo hi).nodes L n (v, lo, hi)) ((resN V B L n v lo hi).len n) ((resN V B L n v lo hi).num n lo) ∧
        ∀ β, ev ((resN V B L n v lo hi).nodes L n (v, lo, hi)) β ((resN V B L n v lo hi).num n lo) = if β v.toNat then ev L β hi else ev L β lo) := by
  obtain ⟨a, b, ⟨c1, c2⟩, ⟨d1, d2⟩, e, f⟩ := fitN_iff.1 hf
  unfold resN
  rw [if_pos hf]
  by_cases hlh : lo = hi
  · rw [if_pos hlh]
    subst hlh
    refine ⟨g, Ext.refl _ _, Nat.le_succ _, isN_iff.2 ⟨c1, c2⟩, fun _ => ⟨Int.le_of_lt e, fun β => ?_⟩⟩
    show ev L β lo = _
    split <;> rfl
  · rw [if_neg hlh]
    cases hi' : idx L (v, lo, hi) n with
    | some i =>
      obtain ⟨h1, h2, _⟩ := idx_some hi'
      refine ⟨g, Ext.refl _ _, Nat.le_succ _, isN_iff.2 ⟨by show (0 : Int) ≤ (i : Int) + 2; omega, by show (i : Int) + 2 < (n : Int) + 2; omega⟩, fun _ => ⟨?_, fun β => ?_⟩⟩
      · show v ≤ varN V L n ((i : Int) + 2)
        rw [var_node h1, h2]; exact Int.le_refl _
      · show ev L β ((i : Int) + 2) = _
        rw [ev_node g β i h1, h2]
    | none =>
      by_cases hB : B ≤ n
      · simp only [if_pos hB]
        exact ⟨g, Ext.refl _ _, Nat.le_succ _, isN_iff.2 ⟨Int.le_refl _, by show (0 : Int) < (n : Int) + 2; omega⟩, fun h => by cases h⟩
      · simp only [if_neg hB]
        have g' := g.add hf hlh hi'
        have hx : Ext L n (addN L n (v, lo, hi)) (n + 1) := ⟨Nat.le_succ _, fun i hi => by unfold addN; rw [if_neg (by omega)]⟩
        have hn : addN L n (v, lo, hi) n = (v, lo, hi) := by unfold addN; rw [if_pos rfl]
        refine ⟨g', hx, Nat.le_refl _, isN_iff.2 ⟨by show (0 : Int) ≤ (n : Int) + 2; omega, by show (n : Int) + 2 < ((n + 1 : Nat) : Int) + 2; omega⟩, fun _ => ⟨?_, fun β => ?_⟩⟩
        · show v ≤ varN V (addN L n (v, lo, hi)) (n + 1) ((n : Int) + 2)
          rw [var_node (Nat.lt_succ_self n), hn]; exact Int.le_refl _
        · show ev (addN L n (v, lo, hi)) β ((n : Int) + 2) = _
          rw [ev_node g' β n (Nat.lt_succ_self n), hn]
          simp only []
          rw [hx.ev g β c2, hx.ev g β d2]
/-- What a diagram maker knows: nodes, whether all is spent, answers kept. -/
structure St where
  L : Nat → Nd
  n : Nat
  s : Bool
  F : Nat → Option (CKey × Int)
  hits : Int
def mn (V : Int) (L : Nat → Nd) (n : Nat) (f g h : Int) : Int := min (min (varN V L n f) (varN V L n g)) (varN V L n h)
/-- An answer that is right. -/
structure SemI (V : Int) (L : Nat → Nd) (n : Nat) (f g h x : Int) : Prop where
  isf : isN n f = true
  isg : isN n g = true
  ish : isN n h = true
  isx : isN n x = true
  var : mn V L n f g h ≤ varN V L n x
  ev : ∀ β, ev L β x = if ev L β f then ev L β g else ev L β h
theorem mn_ext (e : Ext L n L' n') {f g h : Int} (hf : isN n f = true) (hg : isN n g = true) (hh : isN n h = true) : mn V L' n' f g h = mn V L n f g h := by
  rw [isN_iff] at hf hg hh
  unfold mn
  rw [e.var hf.2, e.var hg.2, e.var hh.2]
theorem SemI.ext (e : Ext L n L' n') (gd : NodePlain.Good V L n) {f g h x : Int} (s : SemI V L n f g h x) : SemI V L' n' f g h x := by
  refine ⟨e.is s.isf, e.is s.isg, e.is s.ish, e.is s.isx, ?_, fun β => ?_⟩
  · rw [mn_ext e s.isf s.isg s.ish, e.var (isN_iff.1 s.isx).2]; exact s.var
  · rw [e.ev gd β (isN_iff.1 s.isx).2, e.ev gd β (isN_iff.1 s.isf).2, e.ev gd β (isN_iff.1 s.isg).2, e.ev gd β (isN_iff.1 s.ish).2]; exact s.ev β
structure Ok (V : Int) (st : St) : Prop where
  good : NodePlain.Good V st.L st.n
  cache : ∀ i f g h x, st.F i = some ((0, f, g, h), x) → SemI V st.L st.n f g h x
/-- ite: of nodes that there are. -/
def iteHead (st : St) (f g h : Int) (k : Unit → Int × St) : Int × St :=
  if f = 1 ∨ g = h then (g, st) else if f = 0 then (h, st) else if g = 1 ∧ h = 0 then (f, st) else
  match look 4096 st.F 0 f g h with
  | some x => (x, { st with hits := st.hits + 1 })
  | none => k ()
def makeM (V B : Int) (st : St) (v lo hi : Int) : Int × St :=
  ((resN V B st.L st.n v lo hi).num st.n lo, { st with L := (resN V B st.L st.n v lo hi).nodes st.L st.n (v, lo, hi), n := (resN V B st.L st.n v lo hi).len st.n, s := (resN V B st.L st.n v lo hi).out st.s })
/-- behind both halves -/
def iteC (V B : Int) (f g h v : Int) (lo : Int) (b : Int × St) : Int × St :=
  if b.2.s = true then (0, b.2) else
    ((makeM V B b.2 v lo b.1).1, if (makeM V B b.2 v lo b.1).2.s = true then (makeM V B b.2 v lo b.1).2 else { (makeM V B b.2 v lo b.1).2 with F := keep 4096 (makeM V B b.2 v lo b.1).2.F 0 f g h (makeM V B b.2 v lo b.1).1 })
/-- behind the first half -/
def iteB (V B : Int) (rec_ : St → Int → Int → Int → Int × St) (f g h v : Int) (a : Int × St) : Int × St :=
  if a.2.s = true then (0, a.2) else iteC V B f g h v a.1 (rec_ a.2 (halfN a.2.L a.2.n f v true) (halfN a.2.L a.2.n g v true) (halfN a.2.L a.2.n h v true))
def iteStep (V B : Int) (rec_ : St → Int → Int → Int → Int × St) (st : St) (f g h : Int) : Int × St :=
  iteB V B rec_ f g h (mn V st.L st.n f g h) (rec_ st (halfN st.L st.n f (mn V st.L st.n f g h) false) (halfN st.L st.n g (mn V st.L st.n f g h) false) (halfN st.L st.n h (mn V st.L st.n f g h) false))
def iteM (V B : Int) : Nat → St → Int → Int → Int → Int × St
  | 0, st, f, g, h => iteHead st f g h fun _ => (0, st)
  | d + 1, st, f, g, h => iteHead st f g h fun _ => iteStep V B (iteM V B d) st f g h
/-- What an if-then-else leaves. -/
structure ItePost (V : Int) (st : St) (f g h : Int) (d : Nat) (r : Int × St) : Prop where
  ok : Ok V r.2
  ext : Ext st.L st.n r.2.L r.2.n
  isr : isN r.2.n r.1 = true
  sem : r.2.s = false → SemI V r.2.L r.2.n f g h r.1
  few : r.2.n ≤ st.n + (2 ^ d - 1)
  hlo : st.hits ≤ r.2.hits
  hhi : r.2.hits ≤ st.hits + ((2 ^ d - 1 : Nat) : Int)
theorem look_some {F : Nat → Option (CKey × Int)} {f g h x : Int} (hl : look 4096 F 0 f g h = some x) : F (slotOf 4096 0 f g h) = some ((0, f, g, h), x) := by
  unfold look lookAt at hl
  cases hF : F (slotOf 4096 0 f g h) with
  | none => rw [hF] at hl; cases hl
  | some p =>
    obtain ⟨k, y⟩ := p
    rw [hF] at hl
    simp only [] at hl
    split at hl
    · cases hl; subst_vars; rfl
    · cases hl
theorem var_term {k : Int} (g : NodePlain.Good V L n) (hk : isN n k = true) (h : V ≤ varN V L n k) : k = 0 ∨ k = 1 := by
  rw [isN_iff] at hk
  by_cases h2 : 2 ≤ k
  · obtain ⟨m, rfl⟩ : ∃ m : Nat, k = m + 2 := ⟨(k - 2).toNat, by omega⟩
    rw [var_node (by omega)] at h
    have := (g.node m (by omega)).2.1
    omega
  · omega
theorem var_pos (hV : 0 ≤ V) (g : NodePlain.Good V L n) (k : Int) : 0 ≤ varN V L n k := by
  unfold varN
  split
  · exact (g.node _ (by omega)).1
  · exact hV
theorem head_ok {st : St} (ok : Ok V st) {f g h : Int} {d : Nat} (hf : isN st.n f = true) (hg : isN st.n g = true) (hh : isN st.n h = true) (hd : f ≠ 0 → f ≠ 1 → 1 ≤ 2 ^ d - 1) {k : Unit → Int × St}
    (hk : f ≠ 0 → f ≠ 1 → look 4096 st.F 0 f g h = none → ItePost V st f g h d (k ())) : ItePost V st f g h d (iteHead st f g h k) := by
  have base : ∀ x, isN st.n x = true → mn V st.L st.n f g h ≤ varN V st.L st.n x → (∀ β, ev st.L β x = if ev st.L β f then ev st.L β g else ev st.L β h) → ItePost V st f g h d (x, st) := fun x h1 h2 h3 =>
    ⟨ok, Ext.refl _ _, h1, fun _ => ⟨hf, hg, hh, h1, h2, h3⟩, Nat.le_add_right _ _, Int.le_refl _, by show st.hits ≤ st.hits + _; omega⟩
  unfold iteHead
  by_cases c1 : f = 1 ∨ g = h
  · rw [if_pos c1]
    refine base g hg (by unfold mn; omega) (fun β => ?_)
    rcases c1 with rfl | rfl
    · rw [ev_low _ β 1 (by omega)]; rfl
    · split <;> rfl
  rw [if_neg c1]
  by_cases c2 : f = 0
  · rw [if_pos c2]
    subst c2
    refine base h hh (by unfold mn; omega) (fun β => ?_)
    rw [ev_low _ β 0 (by omega)]; rfl
  rw [if_neg c2]
  have hf1 : f ≠ 1 := fun e => c1 (.inl e)
  by_cases c3 : g = 1 ∧ h = 0
  · rw [if_pos c3]
    obtain ⟨rfl, rfl⟩ := c3
    refine base f hf (by unfold mn; omega) (fun β => ?_)
    rw [ev_low _ β 1 (by omega), ev_low _ β 0 (by omega)]
    cases ev st.L β f <;> rfl
  rw [if_neg c3]
  cases hl : look 4096 st.F 0 f g h with
  | none => exact hk c2 hf1 hl
  | some x =>
    have hs := ok.cache _ f g h x (look_some hl)
    have := hd c2 hf1
    refine ⟨⟨ok.good, ok.cache⟩, Ext.refl _ _, hs.isx, fun _ => hs, Nat.le_add_right _ _, ?_, ?_⟩
    · show st.hits ≤ st.hits + 1; omega
    · show st.hits + 1 ≤ st.hits + _; omega
theorem keep_some {F : Nat → Option (CKey × Int)} {f g h x : Int} {i : Nat} {k : CKey} {y : Int} (hl : keep 4096 F 0 f g h x i = some (k, y)) : (k = (0, f, g, h) ∧ y = x) ∨ F i = some (k, y) := by
  unfold keep keepAt at hl
  split at hl
  · cases hl; exact .inl ⟨rfl, rfl⟩
  · exact .inr hl
theorem iteM_ok (hV : 0 ≤ V) : ∀ (d : Nat) (st : St) (f g h : Int), Ok V st → isN st.n f = true → isN st.n g = true → isN st.n h = true → V - mn V st.L st.n f g h ≤ d → ItePost V st f g h d (iteM V B d st f g h)
  | 0, st, f, g, h, ok, hf, hg, hh, hd => by
    have ht := var_term ok.good hf (by unfold mn at hd; omega)
    refine head_ok ok hf hg hh (fun h0 h1 => ?_) (fun h0 h1 _ => ?_)
    · rcases ht with e | e
      · exact absurd e h0
      · exact absurd e h1
    · rcases ht with e | e
      · exact absurd e h0
      · exact absurd e h1
  | d + 1, st, f, g, h, ok, hf, hg, hh, hd => by
    have h2d : 1 ≤ 2 ^ d := Nat.one_le_two_pow
    have h2e : 2 ^ (d + 1) = 2 ^ d + 2 ^ d := by rw [Nat.pow_succ]; omega
    refine head_ok ok hf hg hh (fun _ _ => by omega) (fun h0 h1 hl => ?_)
    show ItePost V st f g h (d + 1) (iteStep V B (iteM V B d) st f g h)
    have gd := ok.good
    have hvV : mn V st.L st.n f g h < V := by
      rcases Int.lt_or_le (varN V st.L st.n f) V with h | h
      · unfold mn; omega
      · rcases var_term gd hf h with e | e
        · exact absurd e h0
        · exact absurd e h1
    have hv0 : 0 ≤ mn V st.L st.n f g h := by
      have a := var_pos hV gd f
      have b := var_pos hV gd g
      have c := var_pos hV gd h
      unfold mn; omega
    have hvf : mn V st.L st.n f g h ≤ varN V st.L st.n f := by unfold mn; omega
    have hvg : mn V st.L st.n f g h ≤ varN V st.L st.n g := by unfold mn; omega
    have hvh : mn V st.L st.n f g h ≤ varN V st.L st.n h := by unfold mn; omega
    unfold iteStep
    generalize hv : mn V st.L st.n f g h = v at hvV hv0 hvf hvg hvh hd ⊢
    obtain ⟨f1, f2, f3⟩ := half_ok gd hf hvf hv0 hvV false
    obtain ⟨g1, g2, g3⟩ := half_ok gd hg hvg hv0 hvV false
    obtain ⟨k1, k2, k3⟩ := half_ok gd hh hvh hv0 hvV false
    obtain ⟨f4, f5, f6⟩ := half_ok gd hf hvf hv0 hvV true
    obtain ⟨g4, g5, g6⟩ := half_ok gd hg hvg hv0 hvV true
    obtain ⟨k4, k5, k6⟩ := half_ok gd hh hvh hv0 hvV true
    have A := iteM_ok hV d st _ _ _ ok f1 g1 k1 (by unfold mn; omega)
    generalize iteM V B d st (halfN st.L st.n f v false) (halfN st.L st.n g v false) (halfN st.L st.n h v false) = a at A ⊢
    unfold iteB
    cases has : a.2.s with
    | true =>
      rw [if_pos rfl]
      refine ⟨A.ok, A.ext, isN_iff.2 ⟨Int.le_refl _, by show (0 : Int) < (a.2.n : Int) + 2; omega⟩, fun h => ?_, ?_, A.hlo, ?_⟩
      · have : a.2.s = false := h
        rw [has] at this; cases this
      · have := A.few; show a.2.n ≤ _; omega
      · have := A.hhi; show a.2.hits ≤ _; omega
    | false =>
      rw [if_neg (by decide)]
      have SA := A.sem has
      have ga := A.ok.good
      rw [half_ext A.ext (isN_iff.1 hf).2, half_ext A.ext (isN_iff.1 hg).2, half_ext A.ext (isN_iff.1 hh).2]
      have Bq := iteM_ok hV d a.2 _ _ _ A.ok (A.ext.is f4) (A.ext.is g4) (A.ext.is k4) (by rw [mn_ext A.ext f4 g4 k4]; unfold mn; omega)
      generalize iteM V B d a.2 (halfN st.L st.n f v true) (halfN st.L st.n g v true) (halfN st.L st.n h v true) = b at Bq ⊢
      unfold iteC
      cases hbs : b.2.s with
      | true =>
        rw [if_pos rfl]
        refine ⟨Bq.ok, A.ext.trans Bq.ext, isN_iff.2 ⟨Int.le_refl _, by show (0 : Int) < (b.2.n : Int) + 2; omega⟩, fun h => ?_, ?_, Int.le_trans A.hlo Bq.hlo, ?_⟩
        · have : b.2.s = false := h
          rw [hbs] at this; cases this
        · have := A.few; have := Bq.few; show b.2.n ≤ _; omega
        · have := A.hhi; have := Bq.hhi; show b.2.hits ≤ _; omega
      | false =>
        rw [if_neg (by decide)]
        have SB := Bq.sem hbs
        have gb := Bq.ok.good
        have xa := A.ext
        have xb := Bq.ext
        have xab := xa.trans xb
        have lo_is := xb.is A.isr
        have lo_var : v < varN V b.2.L b.2.n a.1 := by
          have h1 := SA.var
          rw [mn_ext xa f1 g1 k1] at h1
          rw [xb.var (isN_iff.1 A.isr).2]
          unfold mn at h1; omega
        have hi_var : v < varN V b.2.L b.2.n b.1 := by
          have h1 := SB.var
          rw [mn_ext xab f4 g4 k4] at h1
          unfold mn at h1; omega
        have hfit : fitN V b.2.L b.2.n v a.1 b.1 = true := fitN_iff.2 ⟨hv0, hvV, isN_iff.1 lo_is, isN_iff.1 Bq.isr, lo_var, hi_var⟩
        obtain ⟨m1, m2, m3, m4, m5⟩ := make_ok (B := B) gb hfit
        have xc := xab.trans m2
        have few : (resN V B b.2.L b.2.n v a.1 b.1).len b.2.n ≤ st.n + (2 ^ (d + 1) - 1) := by
          have := A.few; have := Bq.few; omega
        have hhi : b.2.hits ≤ st.hits + ((2 ^ (d + 1) - 1 : Nat) : Int) := by
          have := A.hhi; have := Bq.hhi; omega
        cases hms : (resN V B b.2.L b.2.n v a.1 b.1).out b.2.s with
        | true =>
          have hms2 : (makeM V B b.2 v a.1 b.1).2.s = true := hms
          rw [if_pos hms2]
          refine ⟨⟨m1, fun i f g h x hx => (Bq.ok.cache i f g h x hx).ext m2 gb⟩, xc, m4, fun h => ?_, few, Int.le_trans A.hlo Bq.hlo, hhi⟩
          have : (makeM V B b.2 v a.1 b.1).2.s = false := h
          rw [hms2] at this; cases this
        | false =>
          have hms2 : (makeM V B b.2 v a.1 b.1).2.s = false := hms
          rw [hbs] at hms
          obtain ⟨m6, m7⟩ := m5 hms
          have SR : SemI V (makeM V B b.2 v a.1 b.1).2.L (makeM V B b.2 v a.1 b.1).2.n f g h (makeM V B b.2 v a.1 b.1).1 := by
            refine ⟨xc.is hf, xc.is hg, xc.is hh, m4, ?_, fun β => ?_⟩
            · have e := mn_ext (V := V) xc hf hg hh
              rw [hv] at e
              exact Int.le_trans (Int.le_of_eq e) m6
            · show ev ((resN V B b.2.L b.2.n v a.1 b.1).nodes b.2.L b.2.n (v, a.1, b.1)) β ((resN V B b.2.L b.2.n v a.1 b.1).num b.2.n a.1) = if ev ((resN V B b.2.L b.2.n v a.1 b.1).nodes b.2.L b.2.n (v, a.1, b.1)) β f then ev ((resN V B b.2.L b.2.n v a.1 b.1).nodes b.2.L b.2.n (v, a.1, b.1)) β g else ev ((resN V B b.2.L b.2.n v a.1 b.1).nodes b.2.L b.2.n (v, a.1, b.1)) β h
              rw [m7, xc.ev gd β (isN_iff.1 hf).2, xc.ev gd β (isN_iff.1 hg).2, xc.ev gd β (isN_iff.1 hh).2]
              cases hβ : β v.toNat with
              | true =>
                rw [if_pos rfl, SB.ev β, xab.ev gd β (isN_iff.1 f4).2, xab.ev gd β (isN_iff.1 g4).2, xab.ev gd β (isN_iff.1 k4).2, ← f6 β hβ, ← g6 β hβ, ← k6 β hβ]
              | false =>
                rw [if_neg (by decide), xb.ev ga β (isN_iff.1 A.isr).2, SA.ev β, xa.ev gd β (isN_iff.1 f1).2, xa.ev gd β (isN_iff.1 g1).2, xa.ev gd β (isN_iff.1 k1).2, ← f3 β hβ, ← g3 β hβ, ← k3 β hβ]
          rw [if_neg (by rw [hms2]; decide)]
          refine ⟨⟨m1, fun i f' g' h' x hx => ?_⟩, xc, m4, fun _ => SR, few, Int.le_trans A.hlo Bq.hlo, hhi⟩
          rcases keep_some hx with ⟨e1, e2⟩ | hx
          · cases e1; subst e2; exact SR
          · exact (Bq.ok.cache i f' g' h' x hx).ext m2 gb
/-- What the two halves ask. -/
theorem step_ready (hV : 0 ≤ V) {d : Nat} {st : St} {f g h : Int} (ok : Ok V st) (hf : isN st.n f = true) (hg : isN st.n g = true) (hh : isN st.n h = true) (hd : V - mn V st.L st.n f g h ≤ ((d + 1 : Nat) : Int)) (h0 : f ≠ 0) (h1 : f ≠ 1) {v : Int} (hv : mn V st.L st.n f g h = v) :
    0 ≤ v ∧ v < V ∧ (isN st.n (halfN st.L st.n f v false) = true ∧ isN st.n (halfN st.L st.n g v false) = true ∧ isN st.n (halfN st.L st.n h v false) = true ∧ V - mn V st.L st.n (halfN st.L st.n f v false) (halfN st.L st.n g v false) (halfN st.L st.n h v false) ≤ d) ∧
    ∀ a, ItePost V st (halfN st.L st.n f v false) (halfN st.L st.n g v false) (halfN st.L st.n h v false) d a →
      isN a.2.n f = true ∧ isN a.2.n g = true ∧ isN a.2.n h = true ∧ isN a.2.n (halfN a.2.L a.2.n f v true) = true ∧ isN a.2.n (halfN a.2.L a.2.n g v true) = true ∧ isN a.2.n (halfN a.2.L a.2.n h v true) = true ∧ V - mn V a.2.L a.2.n (halfN a.2.L a.2.n f v true) (halfN a.2.L a.2.n g v true) (halfN a.2.L a.2.n h v true) ≤ d := by
  have gd := ok.good
  have hvV : mn V st.L st.n f g h < V := by
    rcases Int.lt_or_le (varN V st.L st.n f) V with h | h
    · unfold mn; omega
    · rcases var_term gd hf h with e | e
      · exact absurd e h0
      · exact absurd e h1
  have hv0 : 0 ≤ mn V st.L st.n f g h := by
    have a := var_pos hV gd f
    have b := var_pos hV gd g
    have c := var_pos hV gd h
    unfold mn; omega
  have hvf : mn V st.L st.n f g h ≤ varN V st.L st.n f := by unfold mn; omega
  have hvg : mn V st.L st.n f g h ≤ varN V st.L st.n g := by unfold mn; omega
  have hvh : mn V st.L st.n f g h ≤ varN V st.L st.n h := by unfold mn; omega
  rw [hv] at hvV hv0 hvf hvg hvh hd
  obtain ⟨f1, f2, f3⟩ := half_ok gd hf hvf hv0 hvV false
  obtain ⟨g1, g2, g3⟩ := half_ok gd hg hvg hv0 hvV false
  obtain ⟨k1, k2, k3⟩ := half_ok gd hh hvh hv0 hvV false
  obtain ⟨f4, f5, f6⟩ := half_ok gd hf hvf hv0 hvV true
  obtain ⟨g4, g5, g6⟩ := half_ok gd hg hvg hv0 hvV true
  obtain ⟨k4, k5, k6⟩ := half_ok gd hh hvh hv0 hvV true
  refine ⟨hv0, hvV, ⟨f1, g1, k1, by unfold mn; omega⟩, fun a A => ?_⟩
  refine ⟨A.ext.is hf, A.ext.is hg, A.ext.is hh, ?_⟩
  rw [half_ext A.ext (isN_iff.1 hf).2, half_ext A.ext (isN_iff.1 hg).2, half_ext A.ext (isN_iff.1 hh).2]
  exact ⟨A.ext.is f4, A.ext.is g4, A.ext.is k4, by rw [mn_ext A.ext f4 g4 k4]; unfold mn; omega⟩
end
end Go.Proofs.Ytloidoekmicloaa
