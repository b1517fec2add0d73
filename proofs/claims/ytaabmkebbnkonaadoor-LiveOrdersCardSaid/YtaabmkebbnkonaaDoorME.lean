/-
  slices.Clone at []uint64: a fresh row of the same words.
-/
import Derived.Test.YtaabmkebbnkonaaDoorMA
import Derived.Lib.SliceRun
import Derived.Deep.RegionWith
import Derived.Deep.RegionHeld3
set_option linter.unusedVariables false
set_option linter.unusedSimpArgs false
set_option linter.unnecessarySimpa false
namespace Go.Proofs.YtaabmkebbnkonaaDoor
open Go.ChangeShapes Go.WideShapes Go.ChangeAt Go.RowKit Go.Deep SetPlain
theorem lU64Info : (Tryd.prog.info? 91).map (fun i => (i.zero, i.size, i.bytes)) = some (some (.int .u64 0), 1, 8) := by kernel_rfl
set_option maxRecDepth 100000 in
set_option maxHeartbeats 1600000 in
theorem clone64 (w : World) (g K c : Nat) (X : Nat → Int) (hK : K ≤ 1000000) (hc : ∀ j, j < K → w.cell? ⟨g, j, none⟩ = some (.int .u64 (X j))) :
    Calls Tryd.prog 49 #[.slice (some ⟨g, 0, none⟩) K c] w fun e w' => ∃ v', e = .returned v' ∧ w'.ownsRow w.heap.size 91 1 v' K ((List.range K).map fun j => Value.int .u64 (X j)) ∧ v' ≠ .slice none 0 0 ∧ Below w.heap.size w w' := by
  obtain ⟨i0, hi, hz0, hz1, hz2⟩ := info_parts lU64Info
  have hse := words_eql
  have HC := Lib.hid hc
  clear hc
  go_enter Tryd.func49, Tryd.ntmps49
  go_wp2_with (at_builtin; refine wpList_append_own _ rfl _ _ 76 rfl w.heap.size 91 i0 (.int .u64 0) 1 8 Tryd.underlying76 hi hz0 hz1 hz2 rfl (by decide) _ _ _ rfl (World.ownsRow_made w #[] 0 (Nat.le_refl _) (Nat.zero_le _) rfl) ⟨g, 0, none⟩ K c ((List.range K).map fun j => Value.int .u64 (X j)) rfl ?qc1 ?qc2 ?qc3 ?qc4 ?qc5 ?qc6 ?_)
  case qc1 => simp
  case qc2 =>
    intro j u hj
    have hjn : j < K := by
      have := (List.getElem?_eq_some_iff.1 hj).1
      simpa using this
    rw [Addr.add_lit, Nat.zero_add]
    refine Lib.cell?_alloc_some _ ?_
    rw [HC.out j hjn]
    have e : ((List.range K).map fun j => Value.int .u64 (X j))[j]? = some (Value.int .u64 (X j)) := by simp [hjn]
    rw [e] at hj
    exact hj
  case qc3 => intro u hu; obtain ⟨x, _, rfl⟩ := List.mem_map.1 hu; rfl
  case qc4 => unfold maxLen; omega
  case qc5 => omega
  case qc6 => simp
  intro v' w1 hown hgrow hnil
  go_wp2
  go_ret
  refine ⟨v', rfl, by simpa using hown, ?_, ?_⟩
  · exact hnil
  · exact ((Below.refl _ w).alloc (Nat.le_refl _) _).grown hgrow (by simp) (by intro k hk; simp [Value.ownBlock] at hk; omega)
end Go.Proofs.YtaabmkebbnkonaaDoor
/-
  A family that is read alone: its rows may have room to spare.
-/
set_option linter.unusedVariables false
set_option linter.unusedSimpArgs false
set_option linter.unnecessarySimpa false
namespace Go.Proofs.YtaabmkebbnkonaaDoor
open Go.ChangeShapes Go.WideShapes Go.ChangeAt Go.RowKit Go.Deep SetPlain
structure FamRead (w : World) (b bw : Nat) (rg rc : Nat → Nat) (R C : Nat) (In : Nat → Nat → Bool) (tot : Nat) : Prop where
  c0 : w.cell? ⟨b, 0, none⟩ = some (.int .i64 R)
  c1 : w.cell? ⟨b, 1, none⟩ = some (.int .i64 C)
  c2 : w.cell? ⟨b, 2, none⟩ = some (.slice (some ⟨bw, 0, none⟩) R R)
  c3 : w.cell? ⟨b, 3, none⟩ = some (.int .i64 tot)
  row : ∀ i, i < R → w.cell? ⟨bw, i, none⟩ = some (.slice (some ⟨rg i, 0, none⟩) (wordsOf C) (rc i))
  le : ∀ i, i < R → wordsOf C ≤ rc i
  lt : ∀ i, i < R → rg i < w.heap.size
  word : ∀ i, i < R → ∀ k, k < wordsOf C → w.cell? ⟨rg i, k, none⟩ = some (.int .u64 (wordOf (In i) k))
  out : ∀ i c, C ≤ c → In i c = false
  hR : R ≤ 5000
  hC : C ≤ 1000
theorem FamMem.read {w : World} {b bw : Nat} {rb : Nat → Nat} {R C : Nat} {In : Nat → Nat → Bool} {tot : Nat} (h : FamMem w b bw rb R C In tot) : ∃ rc, FamRead w b bw rb rc R C In tot := by
  refine ⟨fun i => if hi : i < R then (h.cellR hi).choose else 0, by rw [cell_of_heap h.obj]; rfl, by rw [cell_of_heap h.obj]; rfl, by rw [cell_of_heap h.obj]; rfl, by rw [cell_of_heap h.obj]; rfl, fun i hi => ?_, fun i hi => ?_, fun i hi => ?_, fun i hi k hk => (h.word hi hk).1, h.out, h.hR, h.hC⟩
  · simp only [dif_pos hi]
    exact (h.cellR hi).choose_spec.1
  · simp only [dif_pos hi]
    exact (h.cellR hi).choose_spec.2
  · obtain ⟨cur, h3, _⟩ := h.row i hi
    exact lt_of_heap h3
def rowVc (rg rc : Nat → Nat) (R K : Nat) (i : Int) : Value := if 0 ≤ i ∧ i < R then .slice (some ⟨rg i.toNat, 0, none⟩) K (rc i.toNat) else .slice none 0 0
def RowAtC (w : World) (v : Value) (K : Nat) (p : Nat → Bool) : Prop :=
  (v = .slice none 0 0 ∧ ∀ j, p j = false) ∨ ∃ g cp, v = .slice (some ⟨g, 0, none⟩) K cp ∧ K ≤ cp ∧ g < w.heap.size ∧ ∀ k, k < K → w.cell? ⟨g, k, none⟩ = some (.int .u64 (wordOf p k))
section
variable {w : World} {b bw : Nat} {rg rc : Nat → Nat} {R C : Nat} {In : Nat → Nat → Bool} {tot : Nat}
theorem FamRead.at_ (h : FamRead w b bw rg rc R C In tot) (i : Int) : RowAtC w (rowVc rg rc R (wordsOf C) i) (wordsOf C) (rowP R In i) := by
  unfold rowVc rowP
  by_cases hi : 0 ≤ i ∧ i < R
  · rw [if_pos hi, if_pos hi]
    exact .inr ⟨rg i.toNat, rc i.toNat, rfl, h.le _ (by omega), h.lt _ (by omega), h.word _ (by omega)⟩
  · rw [if_neg hi, if_neg hi]
    exact .inl ⟨rfl, fun _ => rfl⟩
set_option maxRecDepth 10000 in
theorem rdrows_spec (h : FamRead w b bw rg rc R C In tot) : Calls Tryd.prog 30 #[.pointer (some ⟨b, 0, none⟩)] w fun e w' => e = .returned (.int .i64 R) ∧ w = w' := by
  have c0 : w.cell? ⟨b, 0, none⟩ = some (.int .i64 R) := h.c0
  go_enter Tryd.func30, Tryd.ntmps30
  go_wp2
  go_ret
  exact ⟨rfl, rfl⟩
set_option maxRecDepth 10000 in
theorem rdtotal_spec (h : FamRead w b bw rg rc R C In tot) : Calls Tryd.prog 35 #[.pointer (some ⟨b, 0, none⟩)] w fun e w' => e = .returned (.int .i64 tot) ∧ w = w' := by
  have c0 : w.cell? ⟨b, 3, none⟩ = some (.int .i64 tot) := h.c3
  go_enter Tryd.func35, Tryd.ntmps35
  go_wp2
  go_ret
  exact ⟨rfl, rfl⟩
set_option maxRecDepth 10000 in
set_option maxHeartbeats 800000 in
theorem rdrow_spec (h : FamRead w b bw rg rc R C In tot) (i : Int) : Calls Tryd.prog 46 #[.pointer (some ⟨b, 0, none⟩), .int .i64 i] w fun e w' => e = .returned (rowVc rg rc R (wordsOf C) i) ∧ w = w' := by
  have HR := Lib.hid (rdrows_spec h)
  have hR := h.hR
  rcases Int.lt_or_le i 0 with h0 | h0
  · rw [show rowVc rg rc R (wordsOf C) i = .slice none 0 0 from by unfold rowVc; rw [if_neg (by omega)]]
    clear h
    go_enter Tryd.func46, Tryd.ntmps46
    go_wp2
    go_ret
    exact ⟨rfl, rfl⟩
  · rcases Int.lt_or_le i R with h1 | h1
    · obtain ⟨k, rfl⟩ : ∃ k : Nat, i = k := ⟨i.toNat, by omega⟩
      rw [show rowVc rg rc R (wordsOf C) (k : Int) = .slice (some ⟨rg k, 0, none⟩) (wordsOf C) (rc k) from by unfold rowVc; rw [if_pos ⟨h0, h1⟩]; rfl]
      have c2 : w.cell? ⟨b, 2, none⟩ = some (.slice (some ⟨bw, 0, none⟩) R R) := h.c2
      have cr : w.cell? ⟨bw, k, none⟩ = some (.slice (some ⟨rg k, 0, none⟩) (wordsOf C) (rc k)) := h.row k (by omega)
      clear h
      go_enter Tryd.func46, Tryd.ntmps46
      go_wp2_with (go_at_call 30; refine HR.out.mono ?_; rintro e w' ⟨rfl, rfl⟩)
      go_ret
      exact ⟨rfl, rfl⟩
    · rw [show rowVc rg rc R (wordsOf C) i = .slice none 0 0 from by unfold rowVc; rw [if_neg (by omega)]]
      clear h
      go_enter Tryd.func46, Tryd.ntmps46
      go_wp2_with (go_at_call 30; refine HR.out.mono ?_; rintro e w' ⟨rfl, rfl⟩)
      go_ret
      exact ⟨rfl, rfl⟩

set_option maxRecDepth 10000 in
set_option maxHeartbeats 800000 in
theorem rdhas_spec (h : FamRead w b bw rg rc R C In tot) (i c : Int) (hc0 : -9223372036854775808 ≤ c) (hc1 : c ≤ 9223372036854775807) : Calls Tryd.prog 32 #[.pointer (some ⟨b, 0, none⟩), .int .i64 i, .int .i64 c] w fun e w' => e = .returned (.bool (hasB R C In i c)) ∧ w = w' := by
  have HR := Lib.hid (rdrow_spec h i)
  have hat := h.at_ i
  have hC := h.hC
  have c1 : w.cell? ⟨b, 1, none⟩ = some (.int .i64 C) := h.c1
  unfold hasB
  generalize rowVc rg rc R (wordsOf C) i = v at HR hat
  generalize rowP R In i = p at hat ⊢
  clear h
  rcases hat with ⟨rfl, hp⟩ | ⟨g, cp, rfl, hcp, hg, hcell⟩
  · rw [hp, Bool.and_false]
    go_enter Tryd.func32, Tryd.ntmps32
    go_wp2_with (go_at_call 46; refine HR.out.mono ?_; rintro e w' ⟨rfl, rfl⟩)
    go_ret
    exact ⟨rfl, rfl⟩
  · have HC := Lib.hid hcell
    clear hcell
    rcases Int.lt_or_le c 0 with h0 | h0
    · rw [show decide (0 ≤ c ∧ c < (C : Int)) = false from by simp; omega, Bool.false_and]
      go_enter Tryd.func32, Tryd.ntmps32
      go_wp2_with (go_at_call 46; refine HR.out.mono ?_; rintro e w' ⟨rfl, rfl⟩)
      go_ret
      exact ⟨rfl, rfl⟩
    · rcases Int.lt_or_le c C with h1 | h1
      · rw [show decide (0 ≤ c ∧ c < (C : Int)) = true from by simp; omega, Bool.true_and]
        obtain ⟨m, rfl⟩ : ∃ m : Nat, c = m := ⟨c.toNat, by omega⟩
        have hK := wordsOf_lt C m (by omega)
        have hm := wordOf_bit p m
        have hl := wordOf_lt p (m / 64)
        have hb := shr_bit (wordOf p (m / 64)) (m % 64) hl
        rw [hm] at hb
        have cw := HC.out (m / 64) hK
        obtain ⟨q, hq⟩ : ∃ q, q = m / 64 := ⟨_, rfl⟩
        obtain ⟨j, hj⟩ : ∃ j, j = m % 64 := ⟨_, rfl⟩
        rw [← hq] at hK hb cw hl
        rw [← hj] at hb
        generalize wordOf p q = X at cw hb hl
        rw [show ((m : Int)).toNat = m from rfl]
        rw [← hb]
        have e1 : (m : Int) / 64 = (q : Int) := by omega
        have e2 : (m : Int) % 64 = (j : Int) := by omega
        have hKI : (q : Int) < (wordsOf C : Int) := by omega
        have hj64 : (j : Int) < 64 := by omega
        clear hm hb hq hj HC hl
        go_enter Tryd.func32, Tryd.ntmps32
        go_wp2_with (go_at_call 46; refine HR.out.mono ?_; rintro e w' ⟨rfl, rfl⟩)
        go_ret
        exact ⟨rfl, rfl⟩
      · rw [show decide (0 ≤ c ∧ c < (C : Int)) = false from by simp; omega, Bool.false_and]
        go_enter Tryd.func32, Tryd.ntmps32
        go_wp2_with (go_at_call 46; refine HR.out.mono ?_; rintro e w' ⟨rfl, rfl⟩)
        go_ret
        exact ⟨rfl, rfl⟩
end
end Go.Proofs.YtaabmkebbnkonaaDoor
/-
  Copy's loop: what stands after k rows.
-/
set_option linter.unusedVariables false
set_option linter.unusedSimpArgs false
set_option linter.unnecessarySimpa false
namespace Go.Proofs.YtaabmkebbnkonaaDoor
open Go.ChangeShapes Go.WideShapes Go.ChangeAt Go.RowKit Go.Deep SetPlain
/-- A row that was cloned past z. -/
def CloneAt (z K : Nat) (p : Nat → Bool) (v : Value) (W : World) : Prop :=
  ∃ g cp cur, v = .slice (some ⟨g, 0, none⟩) K cp ∧ K ≤ cp ∧ z ≤ g ∧ W.heap[g]? = some (.cells cur 91 (0, 0)) ∧ ∀ k, k < K → cur[k]? = some (.int .u64 (wordOf p k))
theorem CloneAt.keeps {z K : Nat} {p : Nat → Bool} {v : Value} {W W' : World} (h : CloneAt z K p v W) {S : Nat → Prop} (hk : Keeps S W W') (hs : ∀ g, z ≤ g → ¬ S g) : CloneAt z K p v W' := by
  obtain ⟨g, cp, cur, hv, hle, hz, hg, hc⟩ := h
  exact ⟨g, cp, cur, hv, hle, hz, (hk.block g (lt_of_heap hg) (hs g hz)).trans hg, hc⟩
theorem CloneAt.of_own {z K : Nat} {p : Nat → Bool} {v : Value} {W W' : World} (hz : z ≤ W.heap.size) (h : W'.ownsRow W.heap.size 91 1 v K ((List.range K).map fun j => Value.int .u64 (wordOf p j))) (hn : v ≠ .slice none 0 0) : CloneAt z K p v W' := by
  obtain ⟨hl, ⟨rfl, rfl⟩ | ⟨g, cap, cur, rfl, hg, hh, hle, hm, hs, ht⟩⟩ := h
  · exact absurd rfl hn
  · refine ⟨g, cap, cur, rfl, hle, Nat.le_trans hz hg, hh, fun k hk => ?_⟩
    have h1 : (cur.toList.take (K * 1))[k]? = some (Value.int .u64 (wordOf p k)) := by rw [ht]; simp [hk]
    rw [List.getElem?_take_of_lt (by omega), Array.getElem?_toList] at h1
    exact h1
structure CopyInv (bo bw R C : Nat) (In : Nat → Nat → Bool) (k : Nat) (w1 W : World) : Prop where
  obj : W.heap[bo]? = some (famObj R C bw 0)
  rows : ∃ F, W.heap[bw]? = some (.cells (fnRow F R) 76 (0, 0)) ∧ (∀ j, j < k → CloneAt w1.heap.size (wordsOf C) (In j) (F j) W) ∧ ∀ i j, i < k → j < k → (F i).ownBlock = (F j).ownBlock → i = j
  keeps : Keeps (fun i => i = bw) w1 W
  lo : bo < w1.heap.size
  lw : bw < w1.heap.size
  ne : bo ≠ bw
theorem CopyInv.step {bo bw R C : Nat} {In : Nat → Nat → Bool} {k : Nat} {w1 W W1 : World} (h : CopyInv bo bw R C In k w1 W) (hk : k < R) (hW : Keeps (fun _ => False) W W1) {v : Value} (hv : CloneAt w1.heap.size (wordsOf C) (In k) v W1) (hnw : ∀ x, v.ownBlock = some x → W.heap.size ≤ x) :
    CopyInv bo bw R C In (k + 1) w1 (W1.setCell ⟨bw, k, none⟩ v) := by
  obtain ⟨hobj, ⟨F, hrows, hcl, hin⟩, hkp, hlo, hlw, hne⟩ := h
  have ks := Keeps.setCell (S := fun i => i = bw) (Keeps.refl _ W1) (p := ⟨bw, k, none⟩) (fun _ => rfl) v
  have hs1 := hkp.size
  have hs2 := hW.size
  have o1 := (hW.block bo (Nat.lt_of_lt_of_le hlo hs1) (fun x => x)).trans hobj
  have r1 := (hW.block bw (Nat.lt_of_lt_of_le hlw hs1) (fun x => x)).trans hrows
  have hvb : ∃ x, v.ownBlock = some x := by
    obtain ⟨g, cp, cur, rfl, _⟩ := hv
    exact ⟨g, rfl⟩
  obtain ⟨x, hx⟩ := hvb
  have hxW := hnw x hx
  have hold : ∀ j, j < k → ∃ y, (F j).ownBlock = some y ∧ y < W.heap.size := fun j hj => by
    obtain ⟨g, cp, cur, hF, _, _, hg, _⟩ := hcl j hj
    exact ⟨g, by rw [hF]; rfl, lt_of_heap hg⟩
  refine ⟨(ks.block bo (lt_of_heap o1) hne).trans o1, ⟨fun j => if j = k then v else F j, ?_, fun j hj => ?_, fun i j hi hj => ?_⟩, ?_, hlo, hlw, hne⟩
  · rw [heap_set r1 k v, fnRow_set _ _ _ _ hk]
  · have hg : ∀ g, w1.heap.size ≤ g → ¬ g = bw := fun g hg e => by omega
    by_cases hjk : j = k
    · subst hjk
      show CloneAt _ _ _ (if j = j then v else F j) _
      rw [if_pos rfl]
      exact hv.keeps ks hg
    · show CloneAt _ _ _ (if j = k then v else F j) _
      rw [if_neg hjk]
      exact ((hcl j (by omega)).keeps hW (fun _ _ x => x)).keeps ks hg
  · show (if i = k then v else F i).ownBlock = (if j = k then v else F j).ownBlock → i = j
    by_cases hik : i = k
    · by_cases hjk : j = k
      · intro _; omega
      · rw [if_pos hik, if_neg hjk]
        intro e
        obtain ⟨y, hy, hlt⟩ := hold j (by omega)
        rw [hx, hy] at e
        simp only [Option.some.injEq] at e
        omega
    · by_cases hjk : j = k
      · rw [if_neg hik, if_pos hjk]
        intro e
        obtain ⟨y, hy, hlt⟩ := hold i (by omega)
        rw [hx, hy] at e
        simp only [Option.some.injEq] at e
        omega
      · rw [if_neg hik, if_neg hjk]
        exact hin i j (by omega) (by omega)
  · exact (hkp.trans (hW.mono (fun _ _ x => x.elim))).trans (ks.mono (fun _ _ x => x))
end Go.Proofs.YtaabmkebbnkonaaDoor
/-
  Cols of a family of sets.
-/
set_option linter.unusedVariables false
namespace Go.Proofs.YtaabmkebbnkonaaDoor
open Go.RowKit Go.Deep SetPlain
set_option maxRecDepth 10000 in
theorem fcols_spec {w : World} {b bw : Nat} {rb : Nat → Nat} {R C : Nat} {In : Nat → Nat → Bool} {tot : Nat} (h : FamMem w b bw rb R C In tot) : Calls Tryd.prog 48 #[.pointer (some ⟨b, 0, none⟩)] w fun e w' => e = .returned (.int .i64 C) ∧ w = w' := by
  have c0 : w.cell? ⟨b, 1, none⟩ = some (.int .i64 C) := by rw [cell_of_heap h.obj]; rfl
  go_enter Tryd.func48, Tryd.ntmps48
  go_wp2
  go_ret
  exact ⟨rfl, rfl⟩
end Go.Proofs.YtaabmkebbnkonaaDoor
/-
  Copy: a family that reads the same, in blocks of its own.
-/
set_option linter.unusedVariables false
set_option linter.unusedSimpArgs false
set_option linter.unnecessarySimpa false
namespace Go.Proofs.YtaabmkebbnkonaaDoor
open Go.ChangeShapes Go.WideShapes Go.ChangeAt Go.RowKit Go.Deep SetPlain
/-- A copy, as it is handed over: a family, past z. -/
def CopyFam (z : Nat) (b2 R C : Nat) (In : Nat → Nat → Bool) (tot : Nat) (W : World) : Prop :=
  ∃ bw2 rb2, FamMem W b2 bw2 rb2 R C In tot ∧ ∀ k, famFp b2 bw2 rb2 R k → z ≤ k
/-- A copy, as it is handed over: it reads the same, and lies past z. -/
def CopyOut (z : Nat) (b2 R C : Nat) (In : Nat → Nat → Bool) (tot : Nat) (W : World) : Prop :=
  ∃ bw2 rg2 rc2, FamRead W b2 bw2 rg2 rc2 R C In tot ∧ z ≤ b2 ∧ z ≤ bw2 ∧ (∀ i, i < R → z ≤ rg2 i)
theorem CopyFam.out {z b2 R C : Nat} {In : Nat → Nat → Bool} {tot : Nat} {W : World} (h : CopyFam z b2 R C In tot W) : CopyOut z b2 R C In tot W := by
  obtain ⟨bw2, rb2, h1, h2⟩ := h
  obtain ⟨rc, h3⟩ := h1.read
  exact ⟨bw2, rb2, rc, h3, h2 _ (.inl rfl), h2 _ (.inr (.inl rfl)), fun i hi => h2 _ (.inr (.inr ⟨i, hi, rfl⟩))⟩
section
variable {w : World} {b bw : Nat} {rb : Nat → Nat} {R C : Nat} {In : Nat → Nat → Bool} {tot : Nat}
theorem CopyInv.done {bo bwo : Nat} {w1 W : World} {z : Nat} (h : CopyInv bo bwo R C In R w1 W) (hz : z ≤ w1.heap.size) (hb : z ≤ bo) (hbw : z ≤ bwo) (ho : ∀ i c, C ≤ c → In i c = false) (hR : R ≤ 5000) (hC : C ≤ 1000) :
    CopyFam z bo R C In tot (W.setCell ⟨bo, 3, none⟩ (.int .i64 tot)) := by
  obtain ⟨hobj, ⟨F, hrows, hcl, hin⟩, hkp, hlo, hlw, hne⟩ := h
  have ks := Keeps.setCell (S := fun i => i = bo) (Keeps.refl _ W) (p := ⟨bo, 3, none⟩) (fun _ => rfl) (.int .i64 tot)
  have o1 := heap_set hobj 3 (.int .i64 tot)
  have r1 := (ks.block bwo (lt_of_heap hrows) (fun e => hne e.symm)).trans hrows
  have hg : ∀ g, w1.heap.size ≤ g → ¬ g = bo := fun g hg e => by omega
  have hcl' : ∀ j, j < R → CloneAt w1.heap.size (wordsOf C) (In j) (F j) (W.setCell ⟨bo, 3, none⟩ (.int .i64 tot)) := fun j hj => (hcl j hj).keeps ks hg
  have hbk : ∀ j, j < R → (F j).ownBlock = some ((F j).ownBlock.getD 0) := fun j hj => by
    obtain ⟨g, cp, cur, hF, _⟩ := hcl' j hj
    rw [hF]; rfl
  refine ⟨bwo, fun j => (F j).ownBlock.getD 0, ⟨o1, ⟨F, r1, fun i hi => ?_⟩, fun i hi => ?_, fun i j hi hj e => ?_, ho, hR, hC⟩, fun k hk => ?_⟩
  · obtain ⟨g, cp, cur, hF, hle, _⟩ := hcl' i hi
    exact ⟨cp, by rw [hF]; rfl, hle⟩
  · obtain ⟨g, cp, cur, hF, _, _, hh, hw⟩ := hcl' i hi
    exact ⟨cur, by rw [hF]; exact hh, hw⟩
  · exact hin i j hi hj (by rw [hbk i hi, hbk j hj]; exact congrArg some e)
  · rcases hk with rfl | rfl | ⟨i, hi, rfl⟩
    · exact hb
    · exact hbw
    · obtain ⟨g, cp, cur, hF, _, hz2, _⟩ := hcl' i hi
      show z ≤ (F i).ownBlock.getD 0
      rw [hF]
      exact Nat.le_trans hz hz2

set_option maxRecDepth 100000 in
set_option maxHeartbeats 1600000 in
theorem fcopy_fam (h : FamMem w b bw rb R C In tot) : Calls Tryd.prog 36 #[.pointer (some ⟨b, 0, none⟩)] w fun e w' => e = .returned (.pointer (some ⟨w.heap.size, 0, none⟩)) ∧ CopyFam w.heap.size w.heap.size R C In tot w' ∧ Below w.heap.size w w' := by
  have HA := Lib.hid (frows_spec h)
  have HC := Lib.hid (fcols_spec h)
  have hR := h.hR
  have hC := h.hC
  have HN := Lib.hid (fnew_spec (R : Int) (C : Int) R C (by unfold Within; omega) (by unfold Within; omega) w)
  have H := Lib.hid h
  have hlt := Lib.hid h.lt
  clear h
  go_enter Tryd.func36, Tryd.ntmps36
  go_wp2_with fail
  refine HA.out.mono ?_
  rintro e w' ⟨rfl, rfl⟩
  go_wp2_with fail
  refine HC.out.mono ?_
  rintro e w' ⟨rfl, rfl⟩
  go_wp2_with fail
  refine HN.out.mono ?_
  rintro e w1 ⟨rfl, m1, hb1⟩
  have k1 : Keeps (fun _ => False) w w1 := Keeps.of_below hb1 (Nat.le_refl _)
  have hF1 := Lib.hid (H.out.keeps k1 (fun _ _ x => x))
  have hinv : CopyInv w.heap.size (w.heap.size + 1) R C In 0 w1 w1 := ⟨m1.obj, ⟨_, m1.rows.choose_spec.1, fun j hj => absurd hj (Nat.not_lt_zero _), fun i j hi => absurd hi (Nat.not_lt_zero _)⟩, Keeps.refl _ _, lt_of_heap m1.obj, lt_of_heap m1.rows.choose_spec.1, by omega⟩
  have HI := Lib.hid hinv
  have HB1 := Lib.hid hb1
  clear HA HC HN m1 hinv hb1
  go_wp2_with fail
  refine (frows_spec hF1.out).mono ?_
  rintro e w' ⟨rfl, rfl⟩
  go_wp2_with fail
  go_loopg [12] R (fun g s wr => ∃ k : Nat, k ≤ R ∧ g = R - k ∧ s = .int .i64 k ∧ Hid (CopyInv w.heap.size (w.heap.size + 1) R C In k w1 wr))
  case atStart => exact ⟨0, Nat.zero_le _, rfl, rfl, HI.out⟩
  case round =>
    clear HI
    obtain ⟨k, hk, rfl, rfl, hin⟩ := hrel
    have hF := Lib.hid (hF1.out.keeps hin.out.keeps (fun i hi e => by have := hlt.out i hi; omega))
    by_cases hltk : k < R
    · have hfo := hF.out
      have d2 : wr.cell? ⟨b, 2, none⟩ = some (.slice (some ⟨bw, 0, none⟩) R R) := by rw [cell_of_heap hfo.obj]; rfl
      obtain ⟨cq, cr, hcq⟩ := hfo.cellR hltk
      have o2 : wr.cell? ⟨w.heap.size, 2, none⟩ = some (.slice (some ⟨w.heap.size + 1, 0, none⟩) R R) := by rw [cell_of_heap hin.out.obj]; rfl
      obtain ⟨F, hrF, _⟩ := hin.out.rows
      have hgl := lt_of_heap hrF
      have lb := hlt.out b (.inl rfl)
      have lbw := hlt.out bw (.inr (.inl rfl))
      have hkI : (k : Int) < (R : Int) := by omega
      have hS : ∀ W', Keeps (fun i => i = w.heap.size + 1) wr W' → W'.cell? ⟨w.heap.size, 2, none⟩ = some (.slice (some ⟨w.heap.size + 1, 0, none⟩) R R) ∧ W'.cell? ⟨b, 2, none⟩ = some (.slice (some ⟨bw, 0, none⟩) R R) ∧ W'.cell? ⟨bw, k, none⟩ = some (.slice (some ⟨rb k, 0, none⟩) (wordsOf C) cq) := fun W' hk' =>
        ⟨(hk'.cell (p := ⟨w.heap.size, 2, none⟩) (by show w.heap.size < _; omega) (by show ¬ w.heap.size = w.heap.size + 1; omega)).trans o2, (hk'.cell (p := ⟨b, 2, none⟩) (by show b < _; omega) (by show ¬ b = w.heap.size + 1; omega)).trans d2, (hk'.cell (p := ⟨bw, k, none⟩) (by show bw < _; omega) (by show ¬ bw = w.heap.size + 1; omega)).trans cr⟩
      have CL : Hid (∀ W, Keeps (fun _ => False) wr W → Calls Tryd.prog 49 #[.slice (some ⟨rb k, 0, none⟩) (wordsOf C) cq] W fun e w' => ∃ g cp, e = .returned (.slice (some ⟨g, 0, none⟩) (wordsOf C) cp) ∧ (w'.cell? ⟨w.heap.size, 2, none⟩ = some (.slice (some ⟨w.heap.size + 1, 0, none⟩) R R) ∧ w'.cell? ⟨b, 2, none⟩ = some (.slice (some ⟨bw, 0, none⟩) R R) ∧ w'.cell? ⟨bw, k, none⟩ = some (.slice (some ⟨rb k, 0, none⟩) (wordsOf C) cq)) ∧ w'.cell? ⟨w.heap.size + 1, k, none⟩ = some (F k) ∧ w'.frozen? ⟨w.heap.size + 1, k, none⟩ = false ∧ ((w'.setCell ⟨w.heap.size + 1, k, none⟩ (.slice (some ⟨g, 0, none⟩) (wordsOf C) cp)).cell? ⟨w.heap.size, 2, none⟩ = some (.slice (some ⟨w.heap.size + 1, 0, none⟩) R R) ∧ (w'.setCell ⟨w.heap.size + 1, k, none⟩ (.slice (some ⟨g, 0, none⟩) (wordsOf C) cp)).cell? ⟨b, 2, none⟩ = some (.slice (some ⟨bw, 0, none⟩) R R) ∧ (w'.setCell ⟨w.heap.size + 1, k, none⟩ (.slice (some ⟨g, 0, none⟩) (wordsOf C) cp)).cell? ⟨bw, k, none⟩ = some (.slice (some ⟨rb k, 0, none⟩) (wordsOf C) cq)) ∧ Hid (CopyInv w.heap.size (w.heap.size + 1) R C In (k + 1) w1 (w'.setCell ⟨w.heap.size + 1, k, none⟩ (.slice (some ⟨g, 0, none⟩) (wordsOf C) cp)))) := fun W hW => by
        have hfw := hF.out.keeps hW (fun _ _ x => x)
        refine (clone64 W (rb k) (wordsOf C) cq (fun j => (wordOf (In k) j : Nat)) (by unfold wordsOf; omega) (fun j hj => (hfw.word hltk hj).1)).mono ?_
        rintro e w' ⟨v', rfl, hown, hnn, hb⟩
        have kc : Keeps (fun _ => False) wr w' := hW.trans (Keeps.of_below hb (Nat.le_refl _))
        have h1 := (kc.block (w.heap.size + 1) hgl (fun x => x)).trans hrF
        have hz1 : w1.heap.size ≤ W.heap.size := Nat.le_trans hin.out.keeps.size hW.size
        have ks := Keeps.setCell (S := fun i => i = w.heap.size + 1) (Keeps.refl _ w') (p := ⟨w.heap.size + 1, k, none⟩) (fun _ => rfl) v'
        have kc' : Keeps (fun i => i = w.heap.size + 1) wr w' := kc.mono (fun _ _ x => x.elim)
        have hcl := CloneAt.of_own hz1 hown hnn
        obtain ⟨g, cp, cur, hv, _⟩ := hcl
        subst hv
        exact ⟨g, cp, rfl, hS _ kc', by rw [cell_of_heap h1]; exact fnRow_get _ _ _ hltk, free_of_heap h1 k, hS _ (kc'.trans ks), hin.out.step hltk kc (CloneAt.of_own hz1 hown hnn) (fun x hx => Nat.le_trans hW.size (hown.lt x hx).1)⟩
      have hS0 := hS wr.drew ((Keeps.refl _ _).drew)
      clear hfo hrF hS d2 cr o2
      go_upto_region 5 with fail
      go_region_held3 (fun w' => w'.cell? ⟨w.heap.size, 2, none⟩ = some (.slice (some ⟨w.heap.size + 1, 0, none⟩) R R) ∧ w'.cell? ⟨b, 2, none⟩ = some (.slice (some ⟨bw, 0, none⟩) R R) ∧ w'.cell? ⟨bw, k, none⟩ = some (.slice (some ⟨rb k, 0, none⟩) (wordsOf C) cq)) (first | exact hS0 | assumption) (first | (go_at_call 49; refine (CL.out _ ((Keeps.refl _ _).drew)).mono ?_; rintro e w' ⟨g', cp', rfl, hS1, x1, f1, hS2, hinv'⟩))
      go_wp2_with fail
      go_roundg (R - (k + 1))
      case measure => omega
      case rel => exact ⟨k + 1, by omega, rfl, by go_num, by assumption⟩
    · obtain rfl : k = R := by omega
      have hio := hin.out
      have ho := H.out.out
      have x3 : wr.cell? ⟨w.heap.size, 3, none⟩ = some (.int .i64 (0 : Nat)) := by rw [cell_of_heap hio.obj]; rfl
      have f3 := free_of_heap hio.obj 3
      have lz := lt_of_heap hio.obj
      have TT : Hid (∀ W, Keeps (fun _ => False) wr W → Calls Tryd.prog 35 #[.pointer (some ⟨b, 0, none⟩)] W fun e w' => e = .returned (.int .i64 tot) ∧ W = w') := fun W hW => ftotal_spec (hF.out.keeps hW (fun _ _ x => x))
      have hdr : CopyInv w.heap.size (w.heap.size + 1) k C In k w1 wr.drew := ⟨hio.obj, hio.rows, hio.keeps.drew, hio.lo, hio.lw, hio.ne⟩
      have HOUT := Lib.hid (hdr.done (tot := tot) (z := w.heap.size) HB1.out.size (Nat.le_refl _) (by omega) ho hR hC)
      have HBW : Hid (Below w.heap.size w wr) := HB1.out.trans (hio.keeps.below HB1.out.size (fun i hi e => by omega))
      clear hio ho hdr
      go_upto_region 7 with fail
      go_region_held3 (fun _ => True) (trivial) (first | (go_at_call 35; refine (TT.out _ ((Keeps.refl _ _).drew)).mono ?_; rintro e w' ⟨rfl, rfl⟩))
      go_wp2_with fail
      go_ret
      exact ⟨rfl, HOUT.out, HBW.out.drew.setCell (by simp) _⟩
theorem fcopy_spec (h : FamMem w b bw rb R C In tot) : Calls Tryd.prog 36 #[.pointer (some ⟨b, 0, none⟩)] w fun e w' => e = .returned (.pointer (some ⟨w.heap.size, 0, none⟩)) ∧ CopyOut w.heap.size w.heap.size R C In tot w' ∧ Below w.heap.size w w' :=
  (fcopy_fam h).mono fun e w' ⟨h1, h2, h3⟩ => ⟨h1, h2.out, h3⟩
end
end Go.Proofs.YtaabmkebbnkonaaDoor
