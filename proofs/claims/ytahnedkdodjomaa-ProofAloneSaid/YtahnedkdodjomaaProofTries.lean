/-
  All steps of a rule.
-/
import Derived.Test.YtahnedkdodjomaaProofPut
import Derived.Test.YtahnedkdodjomaaProofPlain
set_option linter.unusedVariables false
set_option linter.unusedSimpArgs false
set_option linter.unnecessarySimpa false
namespace Go.Proofs.Ytahnedkdodjomaa
open Go.ChangeShapes Go.WideShapes Go.ChangeAt Go.RowKit Go.Deep SetPlain
/-- What was proved, in a world that began behind z. -/
structure KnE (z : Nat) (w W : World) (kb : Nat) (P K : Nat) (ao : Option Addr) (n cap mb : Nat) (vs : Value) (l : List Sp) (rs : List Rl) : Prop where
  mem : KnMem W kb P K ao n cap mb vs l
  base : Below z w W
  row : RuleRow W ao rs
  fp : ∀ x, knFp kb mb vs x → z ≤ x
  old : 0 < rs.length → ∀ b off, ao = some ⟨b, off, none⟩ → b < z
  hz : z ≤ w.heap.size
  hrs : rs.length = n
  hcap : n ≤ cap
  hP : P ≤ 64
  hK : K ≤ 64
  good : Grow P K rs [] l
section
variable {z : Nat} {w W W' : World} {kb : Nat} {P K : Nat} {ao : Option Addr} {n cap mb : Nat} {vs vs' : Value} {l l' l1 : List Sp} {rs : List Rl}
theorem KnE.to (h : KnE z w W kb P K ao n cap mb vs l rs) (hg : Grow P K rs l l') (hm : KnMem W' kb P K ao n cap mb vs' l') (ht : KnTo W W' kb mb vs vs') : KnE z w W' kb P K ao n cap mb vs' l' rs := by
  have hs := Nat.le_trans h.hz h.base.size
  have hb : Below z W W' := ht.keeps.below hs (fun x hx hf => by have := h.fp x hf; omega)
  exact ⟨hm, h.base.trans hb, fun h0 => (h.row.keeps hb (fun b off he _ => h.old h0 b off he)) h0, fun x hx => (ht.fp x hx).elim (h.fp x) (fun hx => by omega), h.old, h.hz, h.hrs, h.hcap, h.hP, h.hK, h.good.trans hg⟩
theorem KnE.quiet (h : KnE z w W kb P K ao n cap mb vs l rs) (hk : Keeps (fun _ => False) W W') : KnE z w W' kb P K ao n cap mb vs l rs := h.to (.refl _) (h.mem.quiet hk) (KnTo.quiet hk)
theorem putL_grow (s : Sp) : Grow P K rs l (putL P K rs l s) := by
  unfold putL
  cases h : mayB P K rs l s with
  | true => rw [if_pos rfl]; exact .step s (.refl _) h
  | false => rw [if_neg (by decide)]; exact .refl _
/-- put, and the world behind it. -/
def PutE (z : Nat) (w : World) (kb P K : Nat) (ao : Option Addr) (n cap mb : Nat) (rs : List Rl) (vs : Value) (W : World) (l' : List Sp) (b : Bool) (e : Ending) (W' : World) : Prop :=
  e = .returned (.bool b) ∧ ∃ vs', Hid (KnE z w W' kb P K ao n cap mb vs' l' rs) ∧ Hid (KnTo W W' kb mb vs vs')
set_option maxRecDepth 100000
set_option maxHeartbeats 1600000
theorem put_no (h : KnE z w W kb P K ao n cap mb vs l rs) (rule role who mid : Int)
    (HM : Hid (∀ W', Keeps (fun _ => False) W W' → Calls Try.prog 31 #[.pointer (some ⟨kb, 0, none⟩), .agg #[.int .i64 rule, .int .i64 role, .int .i64 who, .int .i64 mid]] W' fun e W2 => e = .returned (.bool false) ∧ Below W'.heap.size W' W2)) :
    Calls Try.prog 22 #[.pointer (some ⟨kb, 0, none⟩), .agg #[.int .i64 rule, .int .i64 role, .int .i64 who, .int .i64 mid]] W (PutE z w kb P K ao n cap mb rs vs W l false) := by
  have HR2 := Lib.hid (HM.out (W.alloc (SpObj ⟨rule, role, who, mid⟩)) ((Keeps.refl _ _).alloc _))
  have HE : Hid (∀ wA, Below (W.alloc (SpObj ⟨rule, role, who, mid⟩)).heap.size (W.alloc (SpObj ⟨rule, role, who, mid⟩)) wA → PutE z w kb P K ao n cap mb rs vs W l false (.returned (.bool false)) wA) := fun wA hb => by
    have hk : Keeps (fun _ => False) W wA := ((Keeps.refl _ _).alloc _).trans (Keeps.of_below hb (Nat.le_refl _))
    exact ⟨rfl, vs, h.quiet hk, KnTo.quiet hk⟩
  clear h HM
  go_enter Try.func22, Try.ntmps22
  go_upto_region 1 with fail
  go_wp2_with (go_at_call 31; refine HR2.out.mono ?_; rintro e wA ⟨rfl, hka⟩)
  have HP := Lib.hid (HE.out wA hka)
  clear HR2 HE hka
  go_ret
  exact HP.out
theorem put_spec (h : KnE z w W kb P K ao n cap mb vs l rs) (s : Sp) :
    Calls Try.prog 22 #[.pointer (some ⟨kb, 0, none⟩), .agg #[.int .i64 s.rule, .int .i64 s.role, .int .i64 s.who, .int .i64 s.mid]] W (PutE z w kb P K ao n cap mb rs vs W (putL P K rs l s) (mayB P K rs l s)) := by
  have hp : (P : Int) ≤ 64 := by have := h.hP; omega
  have hk : (K : Int) ≤ 64 := by have := h.hK; omega
  have HM : Hid (∀ W', Keeps (fun _ => False) W W' → Calls Try.prog 31 #[.pointer (some ⟨kb, 0, none⟩), .agg #[.int .i64 s.rule, .int .i64 s.role, .int .i64 s.who, .int .i64 s.mid]] W' fun e W2 => e = .returned (.bool (mayB P K rs l s)) ∧ Below W'.heap.size W' W2) := fun W' hk' =>
    have h' := h.quiet hk'
    may_spec hp hk h'.mem h'.hrs h'.hcap h'.row s
  unfold putL
  have hg := @putL_grow P K l rs s
  unfold putL at hg
  cases hm : mayB P K rs l s with
  | true =>
    rw [hm] at HM hg
    rw [if_pos rfl] at hg ⊢
    unfold mayB at hm
    rw [Bool.and_eq_true, Bool.and_eq_true] at hm
    obtain ⟨hr, hw, _⟩ := needs_ok hp hk hm.1.1
    have hn : atF l s.role s.who = none := by
      have := hm.2
      cases h : atF l s.role s.who with
      | none => rfl
      | some x => rw [h] at this; cases this
    refine (put_yes h.mem (h.good.big h.hP h.hK) s.rule s.role s.who s.mid hr hw hn HM).mono ?_
    rintro e W' ⟨rfl, vs', hm', ht⟩
    exact ⟨rfl, vs', h.to hg hm' ht, ht⟩
  | false =>
    rw [hm] at HM
    rw [if_neg (by decide)]
    exact put_no h s.rule s.role s.who s.mid HM
/-- What a look at some steps does. -/
structure TrB (P K : Nat) (rs : List Rl) (l l1 : List Sp) (flag : Bool) (C : Sp → Prop) : Prop where
  grow : Grow P K rs l l1
  more : flag = true → l.length < l1.length
  none : flag = false → l1 = l ∧ ∀ s, C s → mayB P K rs l s = false
theorem TrB.start : TrB P K rs l l false (fun _ => False) := ⟨.refl _, (fun h => by cases h), fun _ => ⟨rfl, fun _ h => h.elim⟩⟩
theorem TrB.weaken {flag : Bool} {C C' : Sp → Prop} (h : TrB P K rs l l1 flag C) (hc : ∀ s, C' s → C s) : TrB P K rs l l1 flag C' := ⟨h.grow, h.more, fun hf => ⟨(h.none hf).1, fun s hs => (h.none hf).2 s (hc s hs)⟩⟩
theorem TrB.put {flag : Bool} {C : Sp → Prop} (h : TrB P K rs l l1 flag C) (s : Sp) : TrB P K rs l (putL P K rs l1 s) (mayB P K rs l1 s || flag) (fun x => C x ∨ x = s) := by
  refine ⟨h.grow.trans (putL_grow s), fun hf => ?_, fun hf => ?_⟩
  · unfold putL
    cases hm : mayB P K rs l1 s with
    | true => rw [if_pos rfl, List.length_append]; exact Nat.lt_succ_of_le h.grow.len
    | false => rw [if_neg (by decide)]; rw [hm, Bool.false_or] at hf; exact h.more hf
  · rw [Bool.or_eq_false_iff] at hf
    obtain ⟨rfl, h2⟩ := h.none hf.2
    unfold putL
    rw [hf.1, if_neg (by decide)]
    exact ⟨rfl, fun x hx => hx.elim (h2 x) (fun e => e ▸ hf.1)⟩
theorem TrB.trans {l2 : List Sp} {f1 f2 : Bool} {C1 C2 : Sp → Prop} (h : TrB P K rs l l1 f1 C1) (k : TrB P K rs l1 l2 f2 C2) : TrB P K rs l l2 (f2 || f1) (fun x => C1 x ∨ C2 x) := by
  refine ⟨h.grow.trans k.grow, fun hf => ?_, fun hf => ?_⟩
  · rw [Bool.or_eq_true] at hf
    rcases hf with hf | hf
    · exact Nat.lt_of_le_of_lt h.grow.len (k.more hf)
    · exact Nat.lt_of_lt_of_le (h.more hf) k.grow.len
  · rw [Bool.or_eq_false_iff] at hf
    obtain ⟨rfl, h2⟩ := h.none hf.2
    obtain ⟨rfl, k2⟩ := k.none hf.1
    exact ⟨rfl, fun x hx => hx.elim (h2 x) (k2 x)⟩
/-- A box beside what was proved. -/
structure Bx (W : World) (kb mb : Nat) (vs : Value) (x : Nat) (o : Obj) : Prop where
  at_ : W.heap[x]? = some o
  nf : ¬ knFp kb mb vs x
theorem Bx.to {x : Nat} {o : Obj} (h : Bx W kb mb vs x o) (ht : KnTo W W' kb mb vs vs') : Bx W' kb mb vs' x o :=
  ⟨(ht.keeps.block _ (lt_of_heap h.at_) h.nf).trans h.at_, fun hx => (ht.fp x hx).elim h.nf (fun hx => by have := lt_of_heap h.at_; omega)⟩
theorem Bx.quiet {x : Nat} {o : Obj} (h : Bx W kb mb vs x o) (hk : Keeps (fun _ => False) W W') : Bx W' kb mb vs x o := h.to (KnTo.quiet hk)
theorem KnE.box {x : Nat} (h : KnE z w W kb P K ao n cap mb vs l rs) (hz : z ≤ x) (hx : ¬ knFp kb mb vs x) (hk : Keeps (fun y => y = x) W W') : KnE z w W' kb P K ao n cap mb vs l rs := by
  have hs := Nat.le_trans h.hz h.base.size
  have hb : Below z W W' := hk.below hs (fun y hy e => by omega)
  exact ⟨h.mem.keeps hk (fun y hy e => hx (e ▸ hy)), h.base.trans hb, fun h0 => (h.row.keeps hb (fun b off he _ => h.old h0 b off he)) h0, h.fp, h.old, h.hz, h.hrs, h.hcap, h.hP, h.hK, h.good⟩
theorem KnE.lt (h : KnE z w W kb P K ao n cap mb vs l rs) : ∀ x, knFp kb mb vs x → x < W.heap.size := h.mem.lt
theorem KnE.new (h : KnE z w W kb P K ao n cap mb vs l rs) (hw : W'.heap.size = W.heap.size) (o : Obj) : Bx (W'.alloc o) kb mb vs W.heap.size o := ⟨by rw [← hw]; exact (MapKept.heap_alloc W' o).1, fun hx => Nat.lt_irrefl _ (h.lt _ hx)⟩
/-- All loops' state but the boxes of a step. -/
structure TrS (z : Nat) (w W : World) (kb P K : Nat) (ao : Option Addr) (n cap mb : Nat) (rs : List Rl) (vs0 : Value) (l0 : List Sp) (rb : Nat) (r : Rl) (wy : World) (vs : Value) (l : List Sp) (flag : Bool) (C : Sp → Prop) : Prop where
  kn : KnE z w wy kb P K ao n cap mb vs l rs
  dst : KnTo W wy kb mb vs0 vs
  rbx : Bx wy kb mb vs rb (.cells #[.int .i64 r.kind, .int .i64 r.head, .int .i64 r.who, .int .i64 r.a, .int .i64 r.b, .int .i64 r.via] 39)
  rle : W.heap.size ≤ rb
  trb : TrB P K rs l0 l flag C
def spO (i : Int) (head : Int) (who : Int) (mid : Int) : Obj := .cells #[.int .i64 i, .int .i64 head, .int .i64 who, .int .i64 mid] 30 (0, 0)
variable {vs0 : Value} {l0 : List Sp} {rb sb : Nat} {r : Rl} {wy wy' : World} {flag : Bool} {C : Sp → Prop}
theorem TrS.quiet (h : TrS z w W kb P K ao n cap mb rs vs0 l0 rb r wy vs l flag C) (hk : Keeps (fun _ => False) wy wy') : TrS z w W kb P K ao n cap mb rs vs0 l0 rb r wy' vs l flag C :=
  ⟨h.kn.quiet hk, h.dst.trans (KnTo.quiet hk), h.rbx.quiet hk, h.rle, h.trb⟩
theorem TrS.put (h : TrS z w W kb P K ao n cap mb rs vs0 l0 rb r wy vs l flag C) {i head who mid : Int} (hs : Bx wy kb mb vs sb (spO i head who mid)) :
    Calls Try.prog 22 #[.pointer (some ⟨kb, 0, none⟩), .agg #[.int .i64 i, .int .i64 head, .int .i64 who, .int .i64 mid]] wy fun e W' => ∃ v vs' l', e = .returned (.bool v) ∧
      Hid (TrS z w W kb P K ao n cap mb rs vs0 l0 rb r W' vs' l' (v || flag) (fun x => C x ∨ x = ⟨i, head, who, mid⟩) ∧ Bx W' kb mb vs' sb (spO i head who mid)) := by
  refine (put_spec h.kn ⟨i, head, who, mid⟩).mono ?_
  rintro e W' ⟨rfl, vs', hk, ht⟩
  exact ⟨_, vs', _, rfl, ⟨hk.out, h.dst.trans ht.out, h.rbx.to ht.out, h.rle, h.trb.put _⟩, hs.to ht.out⟩
theorem TrS.mid (h : TrS z w W kb P K ao n cap mb rs vs0 l0 rb r wy vs l flag C) (hz : W.heap.size ≤ sb) (hzz : z ≤ sb) (hne : sb ≠ rb) {i head who mid : Int} (hs : Bx wy kb mb vs sb (spO i head who mid)) (m : Int) :
    TrS z w W kb P K ao n cap mb rs vs0 l0 rb r (wy.setCell ⟨sb, 3, none⟩ (.int .i64 m)) vs l flag C ∧ Bx (wy.setCell ⟨sb, 3, none⟩ (.int .i64 m)) kb mb vs sb (spO i head who m) := by
  have hk := Keeps.setCell (S := fun x => x = sb) (Keeps.refl _ wy) (p := ⟨sb, 3, none⟩) (fun _ => rfl) (.int .i64 m)
  have ho := hs.at_
  unfold spO at ho
  refine ⟨⟨h.kn.box hzz hs.nf hk, ⟨h.dst.keeps.setCell (fun hlt => by simp only [] at hlt; omega) _, h.dst.fp⟩, ⟨(hk.block _ (lt_of_heap h.rbx.at_) (fun e => hne e.symm)).trans h.rbx.at_, h.rbx.nf⟩, h.rle, h.trb⟩, ⟨?_, hs.nf⟩⟩
  rw [heap_set ho]
  rfl
end
end Go.Proofs.Ytahnedkdodjomaa
