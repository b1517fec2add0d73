/-
  A family of sets, and the document's, in one memory: they say the same.
-/
import Derived.Test.YtmljmpjpdgijlaaDoorSetLives
import Derived.Test.YtmljmpjpdgijlaaDoorSetRefAdd
import Derived.Test.YtmljmpjpdgijlaaDoorSetRefList
import Derived.Test.YtmljmpjpdgijlaaDoorSetRefIn
import Derived.Test.YtmljmpjpdgijlaaDoorSetSame
set_option linter.unusedVariables false
set_option linter.unusedSimpArgs false
set_option linter.unnecessarySimpa false
namespace Go.Proofs.YtmljmpjpdgijlaaDoor
open Go.ChangeShapes Go.WideShapes Go.ChangeAt Go.RowKit Go.Deep SetPlain

/-- The same pairs. -/
structure Link (R C : Nat) (In : Nat → Nat → Bool) (tot : Nat) (L : Nat → Int × Int) (n : Nat) : Prop where
  get : ∀ (i : Int) (c : Nat), pB L (i, (c : Int)) n = rowP R In i c
  pos : ∀ j, j < n → ∃ c : Nat, (L j).2 = c ∧ c < C
  tot : tot = n
  out : ∀ (i : Int) (c : Nat), C ≤ c → rowP R In i c = false
theorem Link.start (R C : Nat) : Link R C (fun _ _ => false) 0 (fun _ => default) 0 :=
  ⟨fun i c => by unfold rowP; split <;> rfl, fun j h => absurd h (Nat.not_lt_zero _), rfl, fun i c _ => by unfold rowP; split <;> rfl⟩
section
variable {R C : Nat} {In : Nat → Nat → Bool} {tot : Nat} {L : Nat → Int × Int} {n : Nat}
theorem Link.has (h : Link R C In tot L n) (i c : Int) : pB L (i, c) n = hasB R C In i c := by
  unfold hasB
  by_cases hc : 0 ≤ c ∧ c < C
  · obtain ⟨m, rfl⟩ : ∃ m : Nat, c = m := ⟨c.toNat, by omega⟩
    rw [h.get, decide_eq_true hc]; rfl
  · rw [decide_eq_false hc, Bool.false_and, pB_false]
    intro j hj e
    obtain ⟨m, h1, h2⟩ := h.pos j hj
    rw [e] at h1
    simp only at h1
    exact hc (by omega)
theorem Link.addB (h : Link R C In tot L n) (i c : Int) : rfAddB R C L n i c = YtmljmpjpdgijlaaDoor.addB R C In i c := by
  unfold rfAddB YtmljmpjpdgijlaaDoor.addB
  rw [h.has]
theorem Link.add (h : Link R C In tot L n) (i c : Int) : Link R C (addIn R C In i c) (addTot R C In i c tot) (if rfAddB R C L n i c then addP L n (i, c) else L) (if rfAddB R C L n i c then n + 1 else n) := by
  rw [h.addB]
  unfold addIn addTot
  cases hb : YtmljmpjpdgijlaaDoor.addB R C In i c with
  | false => simpa using h
  | true =>
    have hb' := hb
    unfold YtmljmpjpdgijlaaDoor.addB at hb'
    simp only [Bool.and_eq_true, decide_eq_true_eq, Bool.not_eq_true'] at hb'
    obtain ⟨⟨h1, h2, h3, h4⟩, h5⟩ := hb'
    obtain ⟨a, rfl⟩ : ∃ a : Nat, i = a := ⟨i.toNat, by omega⟩
    obtain ⟨m, rfl⟩ : ∃ m : Nat, c = m := ⟨c.toNat, by omega⟩
    simp only [if_true]
    refine ⟨fun i' c' => ?_, fun j hj => ?_, by rw [h.tot], fun i' c' hc' => ?_⟩
    · rw [pB_add, h.get]
      unfold rowP
      by_cases hi : 0 ≤ i' ∧ i' < R
      · rw [if_pos hi, if_pos hi]
        show _ = updIn In a m i'.toNat c'
        unfold updIn
        by_cases ha : i'.toNat = a
        · rw [if_pos ha]
          unfold upd
          by_cases hm : c' = m
          · subst hm
            have : ((a : Int), (c' : Int)) = (i', (c' : Int)) := by rw [← ha]; congr 1; omega
            simp [this]
          · have h7 : ¬ (m : Int) = (c' : Int) := by omega
            simp [hm, h7]
        · rw [if_neg ha]
          have h7 : ¬ (a : Int) = i' := by omega
          simp [h7]
      · rw [if_neg hi, if_neg hi]
        have h7 : ¬ (a : Int) = i' := by omega
        simp [h7]
    · unfold addP
      by_cases hjn : j = n
      · rw [if_pos hjn]; exact ⟨m, rfl, by omega⟩
      · rw [if_neg hjn]; exact h.pos j (by omega)
    · have h8 := h.out i' c' hc'
      unfold rowP at h8 ⊢
      split
      · rename_i hi
        rw [if_pos hi] at h8
        show updIn In a m i'.toNat c' = false
        unfold updIn upd
        split
        · have : ¬ c' = m := by omega
          simp [this, h8]
        · exact h8
      · rfl
theorem Link.row (h : Link R C In tot L n) (i : Int) : rowL L n i = rowP R In i := by
  funext c
  exact h.get i c
theorem Link.inside (h : Link R C In tot L n) (i o : Int) : insTo L n i o n = allIn (rowP R In i) (rowP R In o) C := by
  rw [Bool.eq_iff_iff, insTo_iff, allIn_iff]
  constructor
  · intro g c hc hp
    rw [← h.get] at hp
    obtain ⟨j, hj, e⟩ := (pB_iff _ _ _).1 hp
    have := g j hj (by rw [e])
    rw [e] at this
    rw [← h.get]; exact this
  · intro g j hj hi
    obtain ⟨c, h1, h2⟩ := h.pos j hj
    rw [h1, h.get]
    refine g c h2 ?_
    rw [← h.get]
    exact (pB_iff _ _ _).2 ⟨j, hj, Prod.ext hi h1⟩
theorem Link.meets (h : Link R C In tot L n) (i o : Int) : metTo L n i o n = anyIn (rowP R In i) (rowP R In o) C := by
  rw [Bool.eq_iff_iff, metTo_iff, anyIn_iff]
  constructor
  · rintro ⟨j, hj, hi, hp⟩
    obtain ⟨c, h1, h2⟩ := h.pos j hj
    rw [h1, h.get] at hp
    refine ⟨c, h2, ?_, hp⟩
    rw [← h.get]
    exact (pB_iff _ _ _).2 ⟨j, hj, Prod.ext hi h1⟩
  · rintro ⟨c, hc, hp, hq⟩
    rw [← h.get] at hp hq
    obtain ⟨j, hj, e⟩ := (pB_iff _ _ _).1 hp
    exact ⟨j, hj, by rw [e], by rw [e]; exact hq⟩
end

/-- The family at b, the document's at r, in blocks from z on and before y, apart; they say the same. -/
def SR (z y : Nat) (w wc : World) (b R C : Nat) (In : Nat → Nat → Bool) (tot r : Nat) (vr : Value) (L : Nat → Int × Int) (n : Nat) : Prop :=
  ∃ (bw : Nat) (rb : Nat → Nat), FamMem wc b bw rb R C In tot ∧ RfMem wc r vr R C L n ∧ Below z w wc ∧ (∀ k, famFp b bw rb R k → z ≤ k ∧ k < y) ∧ (∀ k, rfFp r vr k → z ≤ k ∧ k < y) ∧ (∀ k, famFp b bw rb R k → ¬ rfFp r vr k)
section
variable {z y : Nat} {w wc : World} {b R C : Nat} {In : Nat → Nat → Bool} {tot r : Nat} {vr : Value} {L : Nat → Int × Int} {n : Nat}
theorem SR.base (h : SR z y w wc b R C In tot r vr L n) : Below z w wc := by
  obtain ⟨_, _, _, _, hb, _⟩ := h
  exact hb
theorem SR.size (h : SR z y w wc b R C In tot r vr L n) (hz : z ≤ w.heap.size) : z ≤ wc.heap.size := Nat.le_trans hz h.base.size
theorem SR.ref (h : SR z y w wc b R C In tot r vr L n) : RfMem wc r vr R C L n := by
  obtain ⟨_, _, _, h, _⟩ := h
  exact h
theorem SR.fp (h : SR z y w wc b R C In tot r vr L n) : ∀ k, rfFp r vr k → k < y := by
  obtain ⟨_, _, _, _, _, _, f, _⟩ := h
  exact fun k hk => (f k hk).2
theorem SR.hC (h : SR z y w wc b R C In tot r vr L n) : C ≤ 1000 := by
  obtain ⟨_, _, h, _⟩ := h
  exact h.hC
theorem SR.live (h : SR z y w wc b R C In tot r vr L n) : LiveFam z w b R C In tot wc := by
  obtain ⟨bw, rb, m, _, hb, f, _⟩ := h
  exact ⟨bw, rb, m, hb, fun k hk => (f k hk).1⟩
theorem SR.list (h : SR z y w wc b R C In tot r vr L n) (hT : TabIn wc) (i : Int) : Calls Tryd.prog 21 #[.pointer (some ⟨b, 0, none⟩), .int .i64 i] wc (ListPost (listTo (rowP R In i) C) wc) := by
  obtain ⟨bw, rb, m, _⟩ := h
  exact flist_spec m hT i
theorem SR.keeps (h : SR z y w wc b R C In tot r vr L n) (hz : z ≤ w.heap.size) {w2 : World} (hk : Keeps (fun _ => False) wc w2) : SR z y w w2 b R C In tot r vr L n := by
  have hs := h.size hz
  obtain ⟨bw, rb, m, t, hb, fa, fb, hd⟩ := h
  exact ⟨bw, rb, m.keeps hk (fun _ _ x => x), t.keeps hk (fun _ _ x => x), hb.trans (hk.below hs (fun _ _ x => x)), fa, fb, hd⟩
theorem SR.tight (h : SR z y w wc b R C In tot r vr L n) : SR z wc.heap.size w wc b R C In tot r vr L n := by
  obtain ⟨bw, rb, m, t, hb, fa, fb, hd⟩ := h
  exact ⟨bw, rb, m, t, hb, fun k hk => ⟨(fa k hk).1, m.lt k hk⟩, fun k hk => ⟨(fb k hk).1, t.lt k hk⟩, hd⟩
theorem SR.add (h : SR z y w wc b R C In tot r vr L n) (hz : z ≤ w.heap.size) (ht : tot ≤ 1000000000) (i c : Int) (hc0 : -9223372036854775808 ≤ c) (hc1 : c ≤ 9223372036854775807) :
    Calls Tryd.prog 9 #[.pointer (some ⟨b, 0, none⟩), .int .i64 i, .int .i64 c] wc fun e w2 => e = .returned (.bool (addB R C In i c)) ∧ SR z y w w2 b R C (addIn R C In i c) (addTot R C In i c tot) r vr L n ∧ Keeps (fun k => z ≤ k ∧ k < y) wc w2 := by
  have hs := h.size hz
  obtain ⟨bw, rb, m, t, hb, fa, fb, hd⟩ := h
  refine (fadd_spec m ht i c hc0 hc1).mono ?_
  rintro e w2 ⟨rfl, m2, k2⟩
  exact ⟨rfl, ⟨bw, rb, m2, t.keeps k2 (fun k h1 h2 => hd k h2 h1), hb.trans (k2.below hs (fun k hk hs => by have := (fa k hs).1; omega)), fa, fb, hd⟩, k2.mono (fun k _ hk => fa k hk)⟩
theorem SR.radd (h : SR z y w wc b R C In tot r vr L n) (hz : z ≤ w.heap.size) (hy : y ≤ wc.heap.size) (hn : n ≤ 1000000000) (i c : Int) :
    Calls Tryd.prog 10 #[.pointer (some ⟨r, 0, none⟩), .int .i64 i, .int .i64 c] wc fun e w2 => e = .returned (.bool (rfAddB R C L n i c)) ∧ (∃ vr', SR z w2.heap.size w w2 b R C In tot r vr' (if rfAddB R C L n i c then addP L n (i, c) else L) (if rfAddB R C L n i c then n + 1 else n)) ∧ Keeps (rfFp r vr) wc w2 := by
  have hs := h.size hz
  obtain ⟨bw, rb, m, t, hb, fa, fb, hd⟩ := h
  refine (rfadd_spec t hn i c).mono ?_
  rintro e w2 ⟨rfl, vr2, t2, k2, f2⟩
  have m2 := m.keeps k2 (fun k h1 h2 => hd k h1 h2)
  refine ⟨rfl, ⟨vr2, bw, rb, m2, t2, hb.trans (k2.below hs (fun k hk hs => by have := (fb k hs).1; omega)), fun k hk => ⟨(fa k hk).1, m2.lt k hk⟩, fun k hk => ⟨?_, t2.lt k hk⟩, fun k hk h2 => ?_⟩, k2⟩
  · rcases f2 k hk with h | h
    · exact (fb k h).1
    · exact Nat.le_trans hs h
  · rcases f2 k h2 with h | h
    · exact hd k hk h
    · have := (fa k hk).2; omega
theorem SR.of_new {w1 w2 : World} (hz : z ≤ w.heap.size) (h1 : LiveFam z w b R C In tot w1) (h2 : RfMem w2 w1.heap.size (.slice none 0 0) R C L n) (b2 : Below w1.heap.size w1 w2) : SR z w2.heap.size w w2 b R C In tot w1.heap.size (.slice none 0 0) L n := by
  have hs := h1.size hz
  obtain ⟨bw, rb, m, hb, f⟩ := h1
  have k2 : Keeps (fun _ => False) w1 w2 := Keeps.of_below b2 (Nat.le_refl _)
  have m2 := m.keeps k2 (fun _ _ x => x)
  refine ⟨bw, rb, m2, h2, hb.trans (k2.below hs (fun _ _ x => x)), fun k hk => ⟨f k hk, m2.lt k hk⟩, fun k hk => ⟨?_, h2.lt k hk⟩, fun k hk h => ?_⟩
  · rcases hk with h | h
    · omega
    · simp [Value.ownBlock] at h
  · have := m.lt k hk
    rcases h with h | h
    · omega
    · simp [Value.ownBlock] at h
end
end Go.Proofs.YtmljmpjpdgijlaaDoor
