/-
  A table of nodes, and the document's, in one memory.
-/
import Derived.Test.YtmljmpjpdgijlaaNodeBudgetWalk
import Derived.Test.YtmljmpjpdgijlaaNodeRefMake
set_option linter.unusedVariables false
set_option linter.unusedSimpArgs false
namespace Go.Proofs.Ytmljmpjpdgijlaa
open Go.ChangeShapes Go.WideShapes Go.ChangeAt Go.RowKit Go.Deep NodePlain

/-- A table at a and the document's at r, in blocks from z on and before y, apart. -/
def TR (z y : Nat) (w wc : World) (a : Nat) (V B : Int) (L : Nat → Nd) (n : Nat) (s : Bool) (r : Nat) (vr : Value) (L2 : Nat → Nd) (n2 : Nat) (s2 : Bool) : Prop :=
  ∃ (pa Ma : Nat) (va : Value) (Pa : Nat → Nat), TabAll wc a pa Ma va V B L n Pa s ∧ RefMem wc r vr V B L2 n2 s2 ∧ Below z w wc ∧
    (∀ k, tabFp a pa va k → z ≤ k ∧ k < y) ∧ (∀ k, refFp r vr k → z ≤ k ∧ k < y) ∧ (∀ k, tabFp a pa va k → ¬ refFp r vr k)
section
variable {z y : Nat} {w wc : World} {a r : Nat} {V B : Int} {L L2 : Nat → Nd} {n n2 : Nat} {s s2 : Bool} {vr : Value}
theorem TR.base (h : TR z y w wc a V B L n s r vr L2 n2 s2) : Below z w wc := by
  obtain ⟨_, _, _, _, _, _, hb, _⟩ := h
  exact hb
theorem TR.size (h : TR z y w wc a V B L n s r vr L2 n2 s2) (hz : z ≤ w.heap.size) : z ≤ wc.heap.size := Nat.le_trans hz h.base.size
theorem TR.ref (h : TR z y w wc a V B L n s r vr L2 n2 s2) : RefMem wc r vr V B L2 n2 s2 := by
  obtain ⟨_, _, _, _, _, h, _⟩ := h
  exact h
theorem TR.fp (h : TR z y w wc a V B L n s r vr L2 n2 s2) : ∀ k, refFp r vr k → k < y := by
  obtain ⟨_, _, _, _, _, _, _, _, f, _⟩ := h
  exact fun k hk => (f k hk).2
theorem TR.good (h : TR z y w wc a V B L n s r vr L2 n2 s2) : NodePlain.Good V L n := by
  obtain ⟨_, _, _, _, t, _⟩ := h
  exact t.good
theorem TR.keeps (h : TR z y w wc a V B L n s r vr L2 n2 s2) (hz : z ≤ w.heap.size) {w2 : World} (hk : Keeps (fun _ => False) wc w2) : TR z y w w2 a V B L n s r vr L2 n2 s2 := by
  have hs := h.size hz
  obtain ⟨pa, Ma, va, Pa, ta, tb, hb, fa, fb, hd⟩ := h
  exact ⟨pa, Ma, va, Pa, ta.keeps hk (fun _ _ x => x), tb.keeps hk (fun _ _ x => x), hb.trans (hk.below hs (fun _ _ x => x)), fa, fb, hd⟩
theorem TR.up (h : TR z y w wc a V B L n s r vr L2 n2 s2) {y' : Nat} (hy : y ≤ y') : TR z y' w wc a V B L n s r vr L2 n2 s2 := by
  obtain ⟨pa, Ma, va, Pa, ta, tb, hb, fa, fb, hd⟩ := h
  exact ⟨pa, Ma, va, Pa, ta, tb, hb, fun k hk => ⟨(fa k hk).1, Nat.lt_of_lt_of_le (fa k hk).2 hy⟩, fun k hk => ⟨(fb k hk).1, Nat.lt_of_lt_of_le (fb k hk).2 hy⟩, hd⟩
theorem TR.tight (h : TR z y w wc a V B L n s r vr L2 n2 s2) : TR z wc.heap.size w wc a V B L n s r vr L2 n2 s2 := by
  obtain ⟨pa, Ma, va, Pa, ta, tb, hb, fa, fb, hd⟩ := h
  exact ⟨pa, Ma, va, Pa, ta, tb, hb, fun k hk => ⟨(fa k hk).1, ta.mem.lt k hk⟩, fun k hk => ⟨(fb k hk).1, tb.lt k hk⟩, hd⟩
theorem TR.make (h : TR z y w wc a V B L n s r vr L2 n2 s2) (hz : z ≤ w.heap.size) (hy : y ≤ wc.heap.size) (hn : n ≤ 1000000000) (v lo hi : Int) (hv0 : -9223372036854775808 ≤ v) (hv1 : v ≤ 9223372036854775807) (hl0 : -9223372036854775808 ≤ lo) (hl1 : lo ≤ 9223372036854775807) (hh0 : -9223372036854775808 ≤ hi) (hh1 : hi ≤ 9223372036854775807) :
    Calls Try.prog 32 #[.pointer (some ⟨a, 0, none⟩), .int .i64 v, .int .i64 lo, .int .i64 hi] wc fun e w2 =>
      e = .returned (.tuple #[.int .i64 ((resN V B L n v lo hi).num n lo), .int .i64 (resN V B L n v lo hi).err]) ∧
        TR z w2.heap.size w w2 a V B ((resN V B L n v lo hi).nodes L n (v, lo, hi)) ((resN V B L n v lo hi).len n) ((resN V B L n v lo hi).out s) r vr L2 n2 s2 ∧ Keeps (fun k => z ≤ k ∧ k < y) wc w2 := by
  have hs := h.size hz
  obtain ⟨pa, Ma, va, Pa, ta, tb, hb, fa, fb, hd⟩ := h
  refine (tmake_spec ta hn v lo hi hv0 hv1 hl0 hl1 hh0 hh1).mono ?_
  rintro e w2 ⟨rfl, bp2, M2, vn2, P2, t2, k2, f2⟩
  have tb2 := tb.keeps k2 (fun k h1 h2 => hd k h2 h1)
  refine ⟨rfl, ⟨bp2, M2, vn2, P2, t2, tb2, hb.trans (k2.below hs (fun k hk hs => by have := (fa k hs).1; omega)), fun k hk => ⟨?_, t2.mem.lt k hk⟩, fun k hk => ⟨(fb k hk).1, tb2.lt k hk⟩, fun k hk h2 => ?_⟩, k2.mono (fun k _ hk => fa k hk)⟩
  · rcases f2 k hk with h | h
    · exact (fa k h).1
    · exact Nat.le_trans hs h
  · rcases f2 k hk with h | h
    · exact hd k h h2
    · have := (fb k h2).2; omega
theorem TR.rmake (h : TR z y w wc a V B L n s r vr L2 n2 s2) (hz : z ≤ w.heap.size) (hy : y ≤ wc.heap.size) (hn : n2 ≤ 1000000000) (v lo hi : Int) (hv0 : -9223372036854775808 ≤ v) (hv1 : v ≤ 9223372036854775807) (hl0 : -9223372036854775808 ≤ lo) (hl1 : lo ≤ 9223372036854775807) (hh0 : -9223372036854775808 ≤ hi) (hh1 : hi ≤ 9223372036854775807) :
    Calls Try.prog 33 #[.pointer (some ⟨r, 0, none⟩), .int .i64 v, .int .i64 lo, .int .i64 hi] wc fun e w2 =>
      e = .returned (.tuple #[.int .i64 ((resN V B L2 n2 v lo hi).num n2 lo), .int .i64 (resN V B L2 n2 v lo hi).err]) ∧
        (∃ vr', TR z w2.heap.size w w2 a V B L n s r vr' ((resN V B L2 n2 v lo hi).nodes L2 n2 (v, lo, hi)) ((resN V B L2 n2 v lo hi).len n2) ((resN V B L2 n2 v lo hi).out s2)) ∧ Keeps (refFp r vr) wc w2 := by
  have hs := h.size hz
  obtain ⟨pa, Ma, va, Pa, ta, tb, hb, fa, fb, hd⟩ := h
  refine (rmake_spec tb hn v lo hi hv0 hv1 hl0 hl1 hh0 hh1).mono ?_
  rintro e w2 ⟨rfl, vr2, t2, k2, f2⟩
  have ta2 := ta.keeps k2 (fun k h1 h2 => hd k h1 h2)
  refine ⟨rfl, ⟨vr2, pa, Ma, va, Pa, ta2, t2, hb.trans (k2.below hs (fun k hk hs => by have := (fb k hs).1; omega)), fun k hk => ⟨(fa k hk).1, ta2.mem.lt k hk⟩, fun k hk => ⟨?_, t2.lt k hk⟩, fun k hk h2 => ?_⟩, k2⟩
  · rcases f2 k hk with h | h
    · exact (fb k h).1
    · exact Nat.le_trans hs h
  · rcases f2 k h2 with h | h
    · exact hd k hk h
    · have := (fa k hk).2; omega
/-- The document's table new behind the other. -/
theorem TR.of_new {w1 w2 : World} (hz : z ≤ w.heap.size) (h1 : LiveTab z w a V B L n s w1) (h2 : RefMem w2 w1.heap.size (.slice none 0 0) V B L2 n2 s2) (b2 : Below w1.heap.size w1 w2) : TR z w2.heap.size w w2 a V B L n s w1.heap.size (.slice none 0 0) L2 n2 s2 := by
  have hs := h1.size hz
  obtain ⟨pa, Ma, va, Pa, ta, ba, fa⟩ := h1
  have k2 : Keeps (fun _ => False) w1 w2 := Keeps.of_below b2 (Nat.le_refl _)
  have ta2 := ta.keeps k2 (fun _ _ x => x)
  refine ⟨pa, Ma, va, Pa, ta2, h2, ba.trans (k2.below hs (fun _ _ x => x)), fun k hk => ⟨fa k hk, ta2.mem.lt k hk⟩, fun k hk => ⟨?_, h2.lt k hk⟩, fun k hk h => ?_⟩
  · rcases hk with h | h
    · omega
    · simp [Value.ownBlock] at h
  · have := ta.mem.lt k hk
    rcases h with h | h
    · omega
    · simp [Value.ownBlock] at h
theorem TR.len (h : TR z y w wc a V B L n s r vr L2 n2 s2) (hn : n ≤ 1000000000000) : Calls Try.prog 34 #[.pointer (some ⟨a, 0, none⟩)] wc fun e w2 => e = .returned (.int .i64 n) ∧ wc = w2 := by
  obtain ⟨_, _, _, _, t, _⟩ := h
  exact tlen_spec t.mem hn
theorem TR.spent (h : TR z y w wc a V B L n s r vr L2 n2 s2) : Calls Try.prog 35 #[.pointer (some ⟨a, 0, none⟩)] wc fun e w2 => e = .returned (.bool s) ∧ wc = w2 := by
  obtain ⟨_, _, _, _, t, _⟩ := h
  exact tspent_spec t.mem
theorem TR.vars (h : TR z y w wc a V B L n s r vr L2 n2 s2) : Calls Try.prog 36 #[.pointer (some ⟨a, 0, none⟩)] wc fun e w2 => e = .returned (.int .i64 V) ∧ wc = w2 := by
  obtain ⟨_, _, _, _, t, _⟩ := h
  exact tvars_spec t.mem
theorem TR.is (h : TR z y w wc a V B L n s r vr L2 n2 s2) (hn : n ≤ 1000000000000) (k : Int) (hk : k ≤ 9223372036854775807) : Calls Try.prog 37 #[.pointer (some ⟨a, 0, none⟩), .int .i64 k] wc fun e w2 => e = .returned (.bool (isN n k)) ∧ wc = w2 := by
  obtain ⟨_, _, _, _, t, _⟩ := h
  exact tis_spec t.mem hn k hk
theorem TR.var (h : TR z y w wc a V B L n s r vr L2 n2 s2) (hn : n ≤ 1000000000000) (k : Int) (hk0 : -9223372036854775808 ≤ k) (hk : k ≤ 9223372036854775807) : Calls Try.prog 39 #[.pointer (some ⟨a, 0, none⟩), .int .i64 k] wc fun e w2 => e = .returned (.int .i64 (varN V L n k)) ∧ Below wc.heap.size wc w2 := by
  obtain ⟨_, _, _, _, t, _⟩ := h
  exact tvar_spec t.mem hn k hk0 hk
theorem TR.get (h : TR z y w wc a V B L n s r vr L2 n2 s2) (hn : n ≤ 1000000000000) (k : Int) (hk0 : -9223372036854775808 ≤ k) (hk : k ≤ 9223372036854775807) : Calls Try.prog 41 #[.pointer (some ⟨a, 0, none⟩), .int .i64 k] wc (GetNPost (getN L n k) wc) := by
  obtain ⟨_, _, _, _, t, _⟩ := h
  exact tget_spec t.mem hn k hk0 hk
theorem TR.at (h : TR z y w wc a V B L n s r vr L2 n2 s2) (hV : V ≤ 61) (hn : n ≤ 1000000000000) (k : Int) (hk0 : -9223372036854775808 ≤ k) (hk : k ≤ 9223372036854775807) (X : Nat) (hX : X < 18446744073709551616) : Calls Try.prog 42 #[.pointer (some ⟨a, 0, none⟩), .int .i64 k, .int .u64 X] wc fun e w2 => e = .returned (.bool (isN n k && ev L X.testBit k)) ∧ Below wc.heap.size wc w2 := by
  obtain ⟨_, _, _, _, t, _⟩ := h
  exact tat_spec t.mem t.good hV hn k hk0 hk X hX
end
set_option maxRecDepth 10000 in
set_option maxHeartbeats 800000 in
theorem node_neq (a0 a1 a2 : Int) (w : World) :
    (binOp .neq 58 (.agg #[.int .i64 a0, .int .i64 a1, .int .i64 a2]) (.agg #[.int .i64 a0, .int .i64 a1, .int .i64 a2])).run Try.prog w = .ok (.bool false) w := by
  simp [go_sem]

section
variable {z y : Nat} {w wc : World} {a r : Nat} {V B : Int} {L L2 : Nat → Nd} {n n2 : Nat} {s s2 : Bool} {vr : Value}
set_option maxRecDepth 10000 in
set_option maxHeartbeats 800000 in
theorem TR.at_low (h : TR z y w wc a V B L n s r vr L2 n2 s2) (hn : n ≤ 1000000000000) (k : Int) (hk0 : 0 ≤ k) (hk : k < 2) (X : Int) : Calls Try.prog 42 #[.pointer (some ⟨a, 0, none⟩), .int .i64 k, .int .u64 X] wc fun e w2 => e = .returned (.bool (decide (k = 1))) ∧ w2 = wc := by
  have HI := Lib.hid (h.is hn k (by omega))
  rw [show isN n k = true from by simp [isN]; omega] at HI
  clear h
  rcases (by omega : k = 0 ∨ k = 1) with rfl | rfl
  all_goals
    go_enter Try.func42, Try.ntmps42
    go_wp2_with fail
    refine HI.out.mono ?_
    rintro e w' ⟨rfl, rfl⟩
    go_wp2
    refine wp_loop_rounds 1 ?_
    rw [rounds_succ]
    go_wp2
    go_ret
    exact ⟨rfl, rfl⟩
set_option maxRecDepth 10000 in
set_option maxHeartbeats 800000 in
theorem TR.rat_low (h : TR z y w wc a V B L n s r vr L2 n2 s2) (hn : n2 ≤ 1000000000000) (k : Int) (hk0 : 0 ≤ k) (hk : k < 2) (X : Int) : Calls Try.prog 43 #[.pointer (some ⟨r, 0, none⟩), .int .i64 k, .int .u64 X] wc fun e w2 => e = .returned (.bool (decide (k = 1))) ∧ w2 = wc := by
  have HI := Lib.hid (ris_spec h.ref hn k (by omega))
  rw [show isN n2 k = true from by simp [isN]; omega] at HI
  clear h
  rcases (by omega : k = 0 ∨ k = 1) with rfl | rfl
  all_goals
    go_enter Try.func43, Try.ntmps43
    go_wp2_with fail
    refine HI.out.mono ?_
    rintro e w' ⟨rfl, rfl⟩
    go_wp2
    go_ret
    exact ⟨rfl, rfl⟩
end
end Go.Proofs.Ytmljmpjpdgijlaa
