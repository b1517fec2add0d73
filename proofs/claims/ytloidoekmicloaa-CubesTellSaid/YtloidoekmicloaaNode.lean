/-
  Walks through layer 14 (node): hash, find.
-/
import Derived.Test.YtloidoekmicloaaKit
import Derived.Test.YtloidoekmicloaaProg
import Derived.Test.YtloidoekmicloaaNodePlain
import Derived.WalkLawsBesides
import Derived.Deep.QuietTactic
import Derived.BigQuiet
import Derived.Lib.Hide
import Derived.Deep.LoopGhost
import Derived.Deep.DeepCutAuto
set_option linter.unusedVariables false
set_option linter.unusedSimpArgs false
set_option linter.unnecessarySimpa false
namespace Go.Proofs.Ytloidoekmicloaa
open Go.RowKit Go.Deep NodePlain

/-- A node's hash. -/
def hashIn (v lo hi : Int) : Int :=
  bits BinOp.xor IntKind.u64 (bits BinOp.xor IntKind.u64 (IntKind.u64.wrap (IntKind.u64.wrap v * 11400714819323198485)) (IntKind.u64.wrap (IntKind.u64.wrap lo * 14029467366897019727))) (IntKind.u64.wrap (IntKind.u64.wrap hi * 1609587929392839161))
def hashF (v lo hi : Int) : Int := bits BinOp.xor IntKind.u64 (hashIn v lo hi) (hashIn v lo hi / 536870912)
theorem hashF_range (v lo hi : Int) : 0 ≤ hashF v lo hi ∧ hashF v lo hi ≤ 18446744073709551615 := bounds_u64 (wf_bits _ _ _ _)

set_option maxRecDepth 10000 in
set_option maxHeartbeats 800000 in
theorem hash_any (v lo hi : Int) (w : World) :
    Calls Try.prog 88 #[.agg #[.int .i64 v, .int .i64 lo, .int .i64 hi]] w fun e w' => e = .returned (.int .u64 (hashF v lo hi)) ∧ Below w.heap.size w w' := by
  go_enter Try.func88, Try.ntmps88
  go_wp2
  go_ret
  exact ⟨rfl, (Below.refl _ _).alloc (Nat.le_refl _) _⟩

set_option maxRecDepth 10000 in
set_option maxHeartbeats 800000 in
theorem node_eql (a0 a1 a2 k0 k1 k2 : Int) (w : World) :
    (binOp .eql 103 (.agg #[.int .i64 a0, .int .i64 a1, .int .i64 a2]) (.agg #[.int .i64 k0, .int .i64 k1, .int .i64 k2])).run Try.prog w = .ok (.bool (decide ((a0, a1, a2) = (k0, k1, k2)))) w := by
  by_cases h0 : a0 = k0
  · subst h0
    by_cases h1 : a1 = k1
    · subst h1
      by_cases h2 : a2 = k2
      · subst h2
        simp [go_sem]
      · have h3' : (a2 == k2) = false := by simpa using h2
        simp [go_sem, h3', h2]
    · have h3' : (a1 == k1) = false := by simpa using h1
      simp [go_sem, h3', h1]
  · have h3' : (a0 == k0) = false := by simpa using h0
    simp [go_sem, h3', h0]

/-- The nodes' cells: three each. -/
def NodeRow (w : World) (g n : Nat) (L : Nat → Nd) : Prop :=
  ∀ j, j < n → w.cell? ⟨g, j * 3, none⟩ = some (.int .i64 (L j).1) ∧ w.cell? ⟨g, j * 3 + 1, none⟩ = some (.int .i64 (L j).2.1) ∧ w.cell? ⟨g, j * 3 + 2, none⟩ = some (.int .i64 (L j).2.2)

def FindPost (h : Nd → Nat) (L : Nat → Nd) (m M : Nat) (P : Nat → Nat) (x : Nd) (w : World) (e : Ending) (w' : World) : Prop :=
  ∃ at_ : Nat, e = .returned (.int .i64 at_) ∧ NodePlain.Found h L m M P x at_ ∧ Below w.heap.size w w'

set_option maxRecDepth 100000 in
set_option maxHeartbeats 1600000 in
theorem find_core (h : Nd → Nat) (L : Nat → Nd) (m n M b bp : Nat) (P : Nat → Nat) (v lo hi hv : Int) (ao : Option Addr) (cap : Nat) (w : World) (hp : Placed h L m M P) (hmn : m ≤ n) (hM : M ≤ 1000000000000) (hn : n ≤ 1000000000000)
    (hh : ∀ W : World, Calls Try.prog 88 #[.agg #[.int .i64 v, .int .i64 lo, .int .i64 hi]] W fun e w' => e = .returned (.int .u64 hv) ∧ Below W.heap.size W w') (hv0 : 0 ≤ hv) (hvs : hv % (M : Int) = (h (v, lo, hi) : Int)) (hs : h (v, lo, hi) < M)
    (c2 : w.cell? ⟨b, 2, none⟩ = some (.slice ao n cap)) (c3 : w.cell? ⟨b, 3, none⟩ = some (.slice (some ⟨bp, 0, none⟩) M M)) (hP : ∀ j, j < M → w.cell? ⟨bp, j, none⟩ = some (.int .i64 (P j)))
    (hN : 0 < n → ∃ g, ao = some ⟨g, 0, none⟩ ∧ g < w.heap.size ∧ NodeRow w g n L) :
    Calls Try.prog 80 #[.pointer (some ⟨b, 0, none⟩), .agg #[.int .i64 v, .int .i64 lo, .int .i64 hi]] w (FindPost h L m M P (v, lo, hi) w) := by
  have hMp : 0 < M := by have := hp.lt; omega
  have hMi : (0 : Int) < (M : Int) := by omega
  have hMn : ¬ M = 0 := by omega
  have hb : b < w.heap.size := lt_of_cell c2
  have hbp : bp < w.heap.size := lt_of_cell (hP 0 hMp)
  have HP := Lib.hid hP; have HN := Lib.hid hN; have Hp := Lib.hid hp
  have hmod : hv.tmod (M : Int) = (h (v, lo, hi) : Int) := by rw [Int.tmod_eq_emod_of_nonneg hv0, hvs]
  obtain ⟨s, hss⟩ : ∃ s, h (v, lo, hi) = s := ⟨_, rfl⟩
  rw [hss] at hmod hs
  have Hs := Lib.hid hss
  have Hmod := Lib.hid hmod
  clear hP hN hp hvs hss hmod
  have hhid := Lib.hid hh; clear hh
  go_enter Try.func80, Try.ntmps80
  go_wp2_with fail
  go_step3
  go_wp2_with fail
  refine (hhid.out _).mono ?_
  rintro e w1 ⟨rfl, hb1⟩
  have hzz : w.heap.size + 1 ≤ w1.heap.size := by have := hb1.size; simpa using this
  have hmod := Hmod.out
  go_wp2_with fail
  clear hmod
  go_step3
  go_wp2_with fail
  obtain ⟨z, hg0⟩ := Gone.start Hp.out (v, lo, hi)
  have hz1 : z < M := hg0.1
  have HG0 := Lib.hid hg0; clear hg0
  go_loopg [6] z (fun g s6 wr => ∃ (d cur : Nat), d ≤ z ∧ g = z - d ∧ s6 = .int .u64 cur ∧ Hid (cur = (s + d) % M) ∧ Hid (Gone h L M P (v, lo, hi) z d) ∧ Below (w.heap.size + 1) (w.alloc (.cells #[.int .i64 v, .int .i64 lo, .int .i64 hi] 103)) wr)
  case atStart => exact ⟨0, s, Nat.zero_le _, rfl, rfl, by show s = (s + 0) % M; rw [Nat.add_zero, Nat.mod_eq_of_lt hs], HG0.out, by simpa using hb1⟩
  case round =>
    obtain ⟨d, cur, hdz, hgk, rfl, hcur, hgone, hb⟩ := hrel
    have hcM : cur < M := by rw [hcur.out]; exact Nat.mod_lt _ hMp
    have hcx : ∀ k o, k < w.heap.size → wr.cell? ⟨k, o, none⟩ = w.cell? ⟨k, o, none⟩ := fun k o hk => (hb.cell (p := ⟨k, o, none⟩) (by simp; omega)).trans (by simp [go_sem, World.cell?_alloc_past, hk])
    have e2 := (hcx b 2 ‹_›).trans c2
    have e3 := (hcx b 3 ‹_›).trans c3
    have eP := (hcx bp cur ‹_›).trans (HP.out cur hcM)
    have hkc := fun o => hb.cell (p := ⟨w.heap.size, o, none⟩) (by simp)
    have q0 : wr.cell? ⟨w.heap.size, 0, none⟩ = some (.int .i64 v) := (hkc 0).trans (by simp)
    have q1 : wr.cell? ⟨w.heap.size, 1, none⟩ = some (.int .i64 lo) := (hkc 1).trans (by simp)
    have q2 : wr.cell? ⟨w.heap.size, 2, none⟩ = some (.int .i64 hi) := (hkc 2).trans (by simp)
    have hcMi : (cur : Int) < (M : Int) := by omega
    have hpost : ∀ W, Below (w.heap.size + 1) (w.alloc (.cells #[.int .i64 v, .int .i64 lo, .int .i64 hi] 103)) W → Below w.heap.size w W := fun W hW => ((Below.refl _ _).alloc (Nat.le_refl _) _).trans (hW.mono (by omega))
    have Hpost := Lib.hid hpost
    have eqc : cur = (h (v, lo, hi) + d) % M := by rw [hcur.out, Hs.out]
    have Eqc := Lib.hid eqc
    clear hkc hpost eqc
    by_cases h0 : P cur = 0
    · rw [h0] at eP
      clear hcx
      have Hf : Hid (NodePlain.Found h L m M P (v, lo, hi) cur) := by
        rw [Eqc.out]
        exact Gone.none Hp.out hgone.out (by rw [← Eqc.out]; exact h0)
      clear h0
      go_wp2
      rw [Exit.noGoto_ret]
      go_ret
      exact ⟨cur, rfl, Hf.out, Hpost.out _ hb⟩
    · rcases Hp.out.val cur hcM with h00 | ⟨i, him, hPi⟩
      · exact absurd h00 h0
      obtain ⟨gb, rfl, hgb, hrow⟩ := HN.out (by omega)
      obtain ⟨r0, r1, r2⟩ := hrow i (by omega)
      rw [← hcx gb _ hgb] at r0 r1 r2
      rw [hPi, show ((i + 2 : Nat) : Int) = (i : Int) + 2 from by omega] at eP
      have hin : (i : Int) < (n : Int) := by omega
      have hb0 : ((i : Int) + 2 == 0) = false := by simp; omega
      have hsub : IntKind.i64.wrap ((i : Int) + 2 - 2) = i := (IntWalk.i64_in _ (by omega)).trans (by omega)
      obtain ⟨⟨a0, a1, a2⟩, hLi⟩ : ∃ p, p = L i := ⟨_, rfl⟩
      rw [← hLi] at r0 r1 r2
      simp only [] at r0 r1 r2
      have heq := fun W => node_eql a0 a1 a2 v lo hi W
      clear hcx hrow
      by_cases hm : (a0, a1, a2) = (v, lo, hi)
      · rw [decide_eq_true hm] at heq
        have Hf : Hid (NodePlain.Found h L m M P (v, lo, hi) cur) := by
          rw [Eqc.out]
          exact Gone.some Hp.out (by rw [← Eqc.out]; exact h0) (by rw [← Eqc.out, hPi]; exact (hLi.symm.trans hm))
        clear hm hLi hPi h0
        go_wp2_with fail
        go_quiet (fail)
        go_wp2
        rw [Exit.noGoto_ret]
        go_ret
        exact ⟨cur, rfl, Hf.out, Hpost.out _ (below_drewN hb _)⟩
      · rw [decide_eq_false hm] at heq
        have hst : Hid (Gone h L M P (v, lo, hi) z (d + 1) ∧ d < z) := Gone.step hgone.out (by rw [← Eqc.out]; exact h0) (by rw [← Eqc.out, hPi]; exact fun e => hm (hLi.trans e))
        have hnx : ((cur : Int) + 1).tmod (M : Int) = (((cur + 1) % M : Nat) : Int) := by rw [Int.tmod_eq_emod_of_nonneg (by omega)]; rfl
        clear hm hLi hPi h0
        go_wp2_with fail
        go_quiet (fail)
        go_wp2_with fail
        go_roundg (z - (d + 1))
        case measure => have := hst.out.2; omega
        case rel => exact ⟨d + 1, (cur + 1) % M, by have := hst.out.2; omega, rfl, rfl, by show (cur + 1) % M = (s + (d + 1)) % M; rw [hcur.out, Nat.mod_add_mod, Nat.add_assoc], hst.out.1, below_drewN hb _⟩
end Go.Proofs.Ytloidoekmicloaa
