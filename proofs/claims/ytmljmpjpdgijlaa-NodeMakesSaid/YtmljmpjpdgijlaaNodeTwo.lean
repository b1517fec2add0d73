/-
  Two tables of nodes in one memory.
-/
import Derived.Test.YtmljmpjpdgijlaaNodeLives
set_option linter.unusedVariables false
set_option linter.unusedSimpArgs false
namespace Go.Proofs.Ytmljmpjpdgijlaa
open Go.ChangeShapes Go.WideShapes Go.ChangeAt Go.RowKit Go.Deep NodePlain

/-- Two tables, in blocks from z on and before y, apart. -/
def Tab2 (z y : Nat) (w wc : World) (a : Nat) (V A : Int) (La : Nat → Nd) (na : Nat) (sa : Bool) (b : Nat) (U B : Int) (Lb : Nat → Nd) (nb : Nat) (sb : Bool) : Prop :=
  ∃ (pa Ma : Nat) (va : Value) (Pa : Nat → Nat) (pb Mb : Nat) (vb : Value) (Pb : Nat → Nat), TabAll wc a pa Ma va V A La na Pa sa ∧ TabAll wc b pb Mb vb U B Lb nb Pb sb ∧ Below z w wc ∧
    (∀ k, tabFp a pa va k → z ≤ k ∧ k < y) ∧ (∀ k, tabFp b pb vb k → z ≤ k ∧ k < y) ∧ (∀ k, tabFp a pa va k → ¬ tabFp b pb vb k)
section
variable {z y : Nat} {w wc : World} {a b : Nat} {V A U B : Int} {La Lb : Nat → Nd} {na nb : Nat} {sa sb : Bool}
theorem Tab2.symm (h : Tab2 z y w wc a V A La na sa b U B Lb nb sb) : Tab2 z y w wc b U B Lb nb sb a V A La na sa := by
  obtain ⟨pa, Ma, va, Pa, pb, Mb, vb, Pb, ta, tb, hb, fa, fb, hd⟩ := h
  exact ⟨pb, Mb, vb, Pb, pa, Ma, va, Pa, tb, ta, hb, fb, fa, fun k h1 h2 => hd k h2 h1⟩
theorem Tab2.size (h : Tab2 z y w wc a V A La na sa b U B Lb nb sb) (hz : z ≤ w.heap.size) : z ≤ wc.heap.size := by
  obtain ⟨_, _, _, _, _, _, _, _, _, _, hb, _⟩ := h
  exact Nat.le_trans hz hb.size
theorem Tab2.base (h : Tab2 z y w wc a V A La na sa b U B Lb nb sb) : Below z w wc := by
  obtain ⟨_, _, _, _, _, _, _, _, _, _, hb, _⟩ := h
  exact hb
theorem Tab2.keeps (h : Tab2 z y w wc a V A La na sa b U B Lb nb sb) (hz : z ≤ w.heap.size) {w2 : World} (hk : Keeps (fun _ => False) wc w2) : Tab2 z y w w2 a V A La na sa b U B Lb nb sb := by
  have hs := h.size hz
  obtain ⟨pa, Ma, va, Pa, pb, Mb, vb, Pb, ta, tb, hb, fa, fb, hd⟩ := h
  exact ⟨pa, Ma, va, Pa, pb, Mb, vb, Pb, ta.keeps hk (fun _ _ x => x), tb.keeps hk (fun _ _ x => x), hb.trans (hk.below hs (fun _ _ x => x)), fa, fb, hd⟩
theorem fp_lt {pa Ma : Nat} {va : Value} {Pa : Nat → Nat} (t : TabMem wc a pa Ma va V A La na Pa sa) : ∀ k, tabFp a pa va k → k < wc.heap.size := fun k hk => t.lt k hk
theorem Tab2.up (h : Tab2 z y w wc a V A La na sa b U B Lb nb sb) {y' : Nat} (hy : y ≤ y') : Tab2 z y' w wc a V A La na sa b U B Lb nb sb := by
  obtain ⟨pa, Ma, va, Pa, pb, Mb, vb, Pb, ta, tb, hb, fa, fb, hd⟩ := h
  exact ⟨pa, Ma, va, Pa, pb, Mb, vb, Pb, ta, tb, hb, fun k hk => ⟨(fa k hk).1, Nat.lt_of_lt_of_le (fa k hk).2 hy⟩, fun k hk => ⟨(fb k hk).1, Nat.lt_of_lt_of_le (fb k hk).2 hy⟩, hd⟩
theorem Tab2.make (h : Tab2 z y w wc a V A La na sa b U B Lb nb sb) (hz : z ≤ w.heap.size) (hy : y ≤ wc.heap.size) (hn : na ≤ 1000000000) (v lo hi : Int) (hv0 : -9223372036854775808 ≤ v) (hv1 : v ≤ 9223372036854775807) (hl0 : -9223372036854775808 ≤ lo) (hl1 : lo ≤ 9223372036854775807) (hh0 : -9223372036854775808 ≤ hi) (hh1 : hi ≤ 9223372036854775807) :
    Calls Try.prog 32 #[.pointer (some ⟨a, 0, none⟩), .int .i64 v, .int .i64 lo, .int .i64 hi] wc fun e w2 =>
      e = .returned (.tuple #[.int .i64 ((resN V A La na v lo hi).num na lo), .int .i64 (resN V A La na v lo hi).err]) ∧
        Tab2 z w2.heap.size w w2 a V A ((resN V A La na v lo hi).nodes La na (v, lo, hi)) ((resN V A La na v lo hi).len na) ((resN V A La na v lo hi).out sa) b U B Lb nb sb ∧ Keeps (fun k => z ≤ k ∧ k < y) wc w2 := by
  have hs := h.size hz
  obtain ⟨pa, Ma, va, Pa, pb, Mb, vb, Pb, ta, tb, hb, fa, fb, hd⟩ := h
  refine (tmake_spec ta hn v lo hi hv0 hv1 hl0 hl1 hh0 hh1).mono ?_
  rintro e w2 ⟨rfl, bp2, M2, vn2, P2, t2, k2, f2⟩
  have tb2 := tb.keeps k2 (fun k h1 h2 => hd k h2 h1)
  refine ⟨rfl, ⟨bp2, M2, vn2, P2, pb, Mb, vb, Pb, t2, tb2, hb.trans (k2.below hs (fun k hk hs => by have := (fa k hs).1; omega)), fun k hk => ⟨?_, fp_lt t2.mem k hk⟩, fun k hk => ⟨(fb k hk).1, fp_lt tb2.mem k hk⟩, fun k hk h2 => ?_⟩, k2.mono (fun k _ hk => fa k hk)⟩
  · rcases f2 k hk with h | h
    · exact (fa k h).1
    · exact Nat.le_trans hs h
  · rcases f2 k hk with h | h
    · exact hd k h h2
    · have := (fb k h2).2; omega
theorem Tab2.len (h : Tab2 z y w wc a V A La na sa b U B Lb nb sb) (hn : na ≤ 1000000000000) :
    Calls Try.prog 34 #[.pointer (some ⟨a, 0, none⟩)] wc fun e w2 => e = .returned (.int .i64 na) ∧ wc = w2 := by
  obtain ⟨pa, Ma, va, Pa, pb, Mb, vb, Pb, ta, tb, hb, fa, fb, hd⟩ := h
  exact tlen_spec ta.mem hn
theorem Tab2.spent (h : Tab2 z y w wc a V A La na sa b U B Lb nb sb) :
    Calls Try.prog 35 #[.pointer (some ⟨a, 0, none⟩)] wc fun e w2 => e = .returned (.bool sa) ∧ wc = w2 := by
  obtain ⟨pa, Ma, va, Pa, pb, Mb, vb, Pb, ta, tb, hb, fa, fb, hd⟩ := h
  exact tspent_spec ta.mem
/-- One table new behind another. -/
theorem Tab2.of_new {w1 : World} (hz : z ≤ w.heap.size) (h1 : LiveTab z w a V A La na sa w1) (w2 : World) (h2 : LiveTab w1.heap.size w1 b U B Lb nb sb w2) : Tab2 z w2.heap.size w w2 a V A La na sa b U B Lb nb sb := by
  have hs := h1.size hz
  obtain ⟨pa, Ma, va, Pa, ta, ba, fa⟩ := h1
  obtain ⟨pb, Mb, vb, Pb, tb, bb, fb⟩ := h2
  have k2 : Keeps (fun _ => False) w1 w2 := Keeps.of_below bb (Nat.le_refl _)
  have ta2 := ta.keeps k2 (fun _ _ x => x)
  refine ⟨pa, Ma, va, Pa, pb, Mb, vb, Pb, ta2, tb, ba.trans (k2.below hs (fun _ _ x => x)), fun k hk => ⟨fa k hk, fp_lt ta2.mem k hk⟩, fun k hk => ⟨Nat.le_trans hs (fb k hk), fp_lt tb.mem k hk⟩, fun k h1 h2 => ?_⟩
  have := fp_lt ta.mem k h1
  have := fb k h2
  omega
end

/-- A greater budget changes nothing till the lesser is spent. -/
theorem res_budget {V A B : Int} {L : Nat → Nd} {n : Nat} {v lo hi : Int} (hAB : A ≤ B) (h : ∀ r, resN V A L n v lo hi = r → r.out false = false) : resN V B L n v lo hi = resN V A L n v lo hi := by
  unfold resN at h ⊢
  split
  · rename_i h1
    rw [if_pos h1] at h
    split
    · rfl
    · rename_i h2
      rw [if_neg h2] at h
      cases hx : idx L (v, lo, hi) n with
      | some i => rfl
      | none =>
        rw [hx] at h
        simp only [] at h ⊢
        by_cases hA : A ≤ n
        · have := h _ rfl
          rw [if_pos hA] at this
          cases this
        · rw [if_neg hA, if_neg (by omega)]
  · rfl
theorem res_len {V A : Int} {L : Nat → Nd} {n : Nat} {v lo hi : Int} (hn : (n : Int) ≤ A) : ((resN V A L n v lo hi).len n : Int) ≤ A ∧ n ≤ (resN V A L n v lo hi).len n ∧ (resN V A L n v lo hi).len n ≤ n + 1 := by
  unfold resN
  split
  · split
    · exact ⟨hn, Nat.le_refl _, Nat.le_succ _⟩
    · split
      · exact ⟨hn, Nat.le_refl _, Nat.le_succ _⟩
      · split
        · exact ⟨hn, Nat.le_refl _, Nat.le_succ _⟩
        · exact ⟨by show ((n + 1 : Nat) : Int) ≤ A; omega, Nat.le_succ _, Nat.le_refl _⟩
  · exact ⟨hn, Nat.le_refl _, Nat.le_succ _⟩
theorem res_spent {V A : Int} {L : Nat → Nd} {n : Nat} {v lo hi : Int} (h : (resN V A L n v lo hi).out false = true) : A ≤ n ∧ (resN V A L n v lo hi).len n = n ∧ (resN V A L n v lo hi).err = 8 := by
  unfold resN at h ⊢
  split
  · rename_i h1
    rw [if_pos h1] at h
    split
    · rename_i h2
      rw [if_pos h2] at h; cases h
    · rename_i h2
      rw [if_neg h2] at h
      cases hx : idx L (v, lo, hi) n with
      | some i => rw [hx] at h; cases h
      | none =>
        rw [hx] at h
        simp only [] at h ⊢
        by_cases hA : A ≤ n
        · rw [if_pos hA]; exact ⟨hA, rfl, rfl⟩
        · rw [if_neg hA] at h; cases h
  · rename_i h1
    rw [if_neg h1] at h; cases h
end Go.Proofs.Ytmljmpjpdgijlaa
