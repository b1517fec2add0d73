/-
  Add of a family of sets.
-/
import Derived.Test.YtckjgefpelnkoaaDoorSetTab
import Derived.RegionTactic
import Derived.BigRegion
set_option linter.unusedVariables false
set_option linter.unusedSimpArgs false
set_option linter.unnecessarySimpa false
namespace Go.Proofs.YtckjgefpelnkoaaDoor
open Go.ChangeShapes Go.WideShapes Go.ChangeAt Go.RowKit Go.Deep SetPlain

def updIn (In : Nat → Nat → Bool) (i c : Nat) : Nat → Nat → Bool := fun a => if a = i then upd (In a) c else In a
def addB (R C : Nat) (In : Nat → Nat → Bool) (i c : Int) : Bool := decide (0 ≤ i ∧ i < R ∧ 0 ≤ c ∧ c < C) && !hasB R C In i c
def addIn (R C : Nat) (In : Nat → Nat → Bool) (i c : Int) : Nat → Nat → Bool := if addB R C In i c = true then updIn In i.toNat c.toNat else In
def addTot (R C : Nat) (In : Nat → Nat → Bool) (i c : Int) (tot : Nat) : Nat := if addB R C In i c = true then tot + 1 else tot

section
variable {w : World} {b bw : Nat} {rb : Nat → Nat} {R C : Nat} {In : Nat → Nat → Bool} {tot : Nat}
theorem FamMem.putRow (h : FamMem w b bw rb R C In tot) (i c : Nat) (hi : i < R) (hc : c < C) : FamMem (w.setCell ⟨rb i, c / 64, none⟩ (.int .u64 (wordOf (upd (In i) c) (c / 64) : Nat))) b bw rb R C (updIn In i c) tot := by
  have hne := h.ne
  have kk := Keeps.setCell (S := fun k => k = rb i) (Keeps.refl _ w) (p := ⟨rb i, c / 64, none⟩) (fun _ => rfl) (.int .u64 (wordOf (upd (In i) c) (c / 64) : Nat))
  refine ⟨(kk.block b (lt_of_heap h.obj) (fun e => (hne.2 i hi).1 e.symm)).trans h.obj, (kk.block bw (lt_of_heap h.rows) (fun e => (hne.2 i hi).2 e.symm)).trans h.rows, fun a ha => ?_, h.inj, fun a d hd => ?_, h.hR, h.hC⟩
  · by_cases hai : a = i
    · subst hai
      rw [heap_set (h.row a ha)]
      have hK := wordsOf_lt C c hc
      unfold wordRow
      rw [fnRow_set _ _ _ _ hK]
      congr 2
      apply fnRow_congr
      intro k hk
      show (if k = c / 64 then Value.int .u64 (wordOf (upd (In a) c) (c / 64) : Nat) else Value.int .u64 (wordOf (In a) k : Nat)) = .int .u64 (wordOf (updIn In a c a) k : Nat)
      have e : updIn In a c a = upd (In a) c := by unfold updIn; rw [if_pos rfl]
      rw [e]
      by_cases hkc : k = c / 64
      · rw [if_pos hkc, hkc]
      · rw [if_neg hkc, wordOf_other _ _ _ hkc]
    · rw [kk.block (rb a) (lt_of_heap (h.row a ha)) (fun e => hai (h.inj a i ha hi e)), h.row a ha]
      unfold updIn
      rw [if_neg hai]
  · unfold updIn upd
    split
    · have : ¬ d = c := by omega
      simp [this, h.out _ _ hd]
    · exact h.out _ _ hd
theorem FamMem.putTot (h : FamMem w b bw rb R C In tot) (n : Nat) : FamMem (w.setCell ⟨b, 3, none⟩ (.int .i64 (n : Int))) b bw rb R C In n := by
  have hne := h.ne
  have kk := Keeps.setCell (S := fun k => k = b) (Keeps.refl _ w) (p := ⟨b, 3, none⟩) (fun _ => rfl) (.int .i64 (n : Int))
  exact ⟨heap_set h.obj 3 _, (kk.block bw (lt_of_heap h.rows) (fun e => hne.1 e.symm)).trans h.rows, fun a ha => (kk.block (rb a) (lt_of_heap (h.row a ha)) (hne.2 a ha).1).trans (h.row a ha), h.inj, h.out, h.hR, h.hC⟩

def AddPost (b bw : Nat) (rb : Nat → Nat) (R C : Nat) (In : Nat → Nat → Bool) (tot : Nat) (i c : Int) (w : World) (e : Ending) (w' : World) : Prop :=
  e = .returned (.bool (addB R C In i c)) ∧ FamMem w' b bw rb R C (addIn R C In i c) (addTot R C In i c tot) ∧ Keeps (famFp b bw rb R) w w'

set_option maxRecDepth 100000 in
set_option maxHeartbeats 1600000 in
theorem fadd_spec (h : FamMem w b bw rb R C In tot) (ht : tot ≤ 1000000000) (i c : Int) (hc0 : -9223372036854775808 ≤ c) (hc1 : c ≤ 9223372036854775807) : Calls Tryd.prog 34 #[.pointer (some ⟨b, 0, none⟩), .int .i64 i, .int .i64 c] w (AddPost b bw rb R C In tot i c w) := by
  have hse := words_eql
  have HR := Lib.hid (frow_spec h i)
  have HH := Lib.hid (fhas_spec h i c hc0 hc1)
  have hat := h.at_ i
  have hC := h.hC
  have c1 : w.cell? ⟨b, 1, none⟩ = some (.int .i64 C) := by rw [cell_of_heap h.obj]; rfl
  have Hno : Hid (addB R C In i c = false → AddPost b bw rb R C In tot i c w (.returned (.bool false)) w) := fun hn => by
    unfold AddPost addIn addTot
    rw [hn]
    exact ⟨rfl, h, Keeps.refl _ _⟩
  by_cases hi : 0 ≤ i ∧ i < R
  · have hv : rowV rb R (wordsOf C) i = .slice (some ⟨rb i.toNat, 0, none⟩) (wordsOf C) (wordsOf C) := by unfold rowV; rw [if_pos hi]; rfl
    have hp : rowP R In i = In i.toNat := by unfold rowP; rw [if_pos hi]
    rw [hv] at HR
    clear hat
    by_cases hcr : 0 ≤ c ∧ c < C
    · obtain ⟨hcr0, hcr1⟩ := hcr
      cases hh : hasB R C In i c with
      | true =>
        rw [hh] at HH
        have hn := Hno.out (by unfold addB; rw [hh]; simp)
        have Hn := Lib.hid hn
        clear hn Hno h hh
        go_enter Tryd.func34, Tryd.ntmps34
        go_wp2_with fail
        refine HR.out.mono ?_
        rintro e w' ⟨rfl, rfl⟩
        go_wp2_with fail
        refine HH.out.mono ?_
        rintro e w' ⟨rfl, rfl⟩
        go_wp2
        go_ret
        exact Hn.out
      | false =>
        rw [hh] at HH
        have hadd : addB R C In i c = true := by unfold addB; rw [hh]; simp; omega
        obtain ⟨a, rfl⟩ : ∃ a : Nat, i = a := ⟨i.toNat, by omega⟩
        obtain ⟨m, rfl⟩ : ∃ m : Nat, c = m := ⟨c.toNat, by omega⟩
        have haR : a < R := by omega
        have hmC : m < C := by omega
        have hK := wordsOf_lt C m hmC
        have hset := wordOf_set (In a) m
        have f1 := h.putRow a m haR hmC
        have cw : w.cell? ⟨rb a, m / 64, none⟩ = some (.int .u64 (wordOf (In a) (m / 64) : Nat)) := by rw [cell_of_heap (h.row a haR)]; exact fnRow_get _ _ _ hK
        have fw : w.frozen? ⟨rb a, m / 64, none⟩ = false := free_of_heap (h.row a haR) _
        have hX := wordOf_lt (In a) (m / 64)
        have Hpost : Hid (∀ W, FamMem W b bw rb R C (updIn In a m) (tot + 1) → Keeps (famFp b bw rb R) w W → AddPost b bw rb R C In tot a m w (.returned (.bool true)) W) := fun W hW hk => by
          unfold AddPost addIn addTot
          rw [hadd]
          exact ⟨rfl, hW, hk⟩
        obtain ⟨q, hq⟩ : ∃ q, q = m / 64 := ⟨_, rfl⟩
        obtain ⟨j, hj⟩ : ∃ j, j = m % 64 := ⟨_, rfl⟩
        rw [← hq] at hK hset f1 cw fw hX
        rw [← hj] at hset
        have hj64 : j < 64 := by omega
        obtain ⟨Z, hZ⟩ : ∃ Z, Z = 2 ^ j := ⟨_, rfl⟩
        rw [← hZ] at hset
        have hZl : Z < 18446744073709551616 := by rw [hZ]; exact Nat.pow_lt_pow_right (a := 2) (by decide) hj64
        have hw2 : IntKind.u64.wrap ((2 : Int) ^ j) = (Z : Int) := by
          have : ((2 : Int) ^ j) = (Z : Int) := by rw [hZ]; simp
          rw [this]; exact IntWalk.u64_in _ (by omega)
        have hor := u64_or_nat (wordOf (In a) q) Z hX hZl
        rw [hset] at hor
        generalize wordOf (In a) q = X at cw hor
        generalize wordOf (upd (In a) m) q = Y at f1 hor
        have e1 : (m : Int) / 64 = (q : Int) := by omega
        have e2 : (m : Int) % 64 = (j : Int) := by omega
        have e3 : IntKind.i64.wrap (((m : Int)).tdiv 64) = (q : Int) := (IntWalk.i64_quo _ _ (by omega)).trans e1
        have e4 : ((m : Int)).tmod 64 = (j : Int) := by rw [Int.tmod_eq_emod_of_nonneg (by omega)]; exact e2
        have hKI : (q : Int) < (wordsOf C : Int) := by omega
        have hj64' : (j : Int) < 64 := by omega
        have hlb : rb a < w.heap.size := lt_of_cell cw
        have F1 := Lib.hid f1
        have Hh := Lib.hid h
        clear h hh hadd hset hq hj hZ hZl hX f1 Hno hv hp
        rw [show ((a : Int)).toNat = a from rfl] at HR
        go_enter Tryd.func34, Tryd.ntmps34
        go_wp2_with fail
        refine HR.out.mono ?_
        rintro e w' ⟨rfl, rfl⟩
        go_wp2_with fail
        refine HH.out.mono ?_
        rintro e w' ⟨rfl, rfl⟩
        go_wp2_with fail
        go_region
        have kk := (Keeps.setCell (S := famFp b bw rb R) (Keeps.refl _ w) (p := ⟨rb a, q, none⟩) (fun _ => .inr (.inr ⟨a, haR, rfl⟩)) (.int .u64 (Y : Int))).drew
        have ff : FamMem (w.setCell ⟨rb a, q, none⟩ (.int .u64 (Y : Int))).drew b bw rb R C (updIn In a m) tot := F1.out.keeps ((Keeps.refl (fun _ => False) _).drew) (fun _ _ x => x)
        generalize (w.setCell ⟨rb a, q, none⟩ (.int .u64 (Y : Int))).drew = W1 at kk ff ⊢
        have c3 : W1.cell? ⟨b, 3, none⟩ = some (.int .i64 tot) := by rw [cell_of_heap ff.obj]; rfl
        have f3 : W1.frozen? ⟨b, 3, none⟩ = false := free_of_heap ff.obj 3
        have hlb1 : b < W1.heap.size := lt_of_heap ff.obj
        have f4 := ff.putTot (tot + 1)
        rw [show (((tot + 1 : Nat)) : Int) = (tot : Int) + 1 from by omega] at f4
        have hwt : IntKind.i64.wrap ((tot : Int) + 1) = (tot : Int) + 1 := IntWalk.i64_in _ (by omega)
        have KK := Lib.hid kk; have F4 := Lib.hid f4
        clear kk ff f4 F1 Hh cw fw hor hw2 e1 e2 e3 e4 hlb hKI hj64' hK
        go_wp2_with fail
        go_region
        go_wp2
        go_ret
        refine Hpost.out _ (F4.out.keeps ((Keeps.refl (fun _ => False) _).drew) (fun _ _ x => x)) ((KK.out.trans ?_))
        exact (Keeps.setCell (S := famFp b bw rb R) (Keeps.refl _ W1) (p := ⟨b, 3, none⟩) (fun _ => .inl rfl) _).drew
    · have hn := Hno.out (by unfold addB; rw [Bool.and_eq_false_imp]; intro h; simp at h; omega)
      have Hn := Lib.hid hn
      clear hn Hno h
      rcases Int.lt_or_le c 0 with h0 | h0
      · clear hcr
        go_enter Tryd.func34, Tryd.ntmps34
        go_wp2_with fail
        refine HR.out.mono ?_
        rintro e w' ⟨rfl, rfl⟩
        go_wp2
        go_ret
        exact Hn.out
      · have hcC : (C : Int) ≤ c := by omega
        clear hcr
        go_enter Tryd.func34, Tryd.ntmps34
        go_wp2_with fail
        refine HR.out.mono ?_
        rintro e w' ⟨rfl, rfl⟩
        go_wp2
        go_ret
        exact Hn.out
  · have hv : rowV rb R (wordsOf C) i = .slice none 0 0 := by unfold rowV; rw [if_neg hi]
    rw [hv] at HR
    have hn := Hno.out (by unfold addB; rw [Bool.and_eq_false_imp]; intro h; simp at h; omega)
    have Hn := Lib.hid hn
    clear hn Hno h hv hat hi
    go_enter Tryd.func34, Tryd.ntmps34
    go_wp2_with fail
    refine HR.out.mono ?_
    rintro e w' ⟨rfl, rfl⟩
    go_wp2
    go_ret
    exact Hn.out
end
end Go.Proofs.YtckjgefpelnkoaaDoor
