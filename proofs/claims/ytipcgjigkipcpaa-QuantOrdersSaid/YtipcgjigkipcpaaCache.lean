/-
  Walks through layer 15 (cache).
-/
import Derived.Test.YtipcgjigkipcpaaProg
import Derived.Test.YtipcgjigkipcpaaKit
import Derived.WalkKit
import Derived.WalkSpells
import Derived.WalkLawsBesides
import Derived.Deep.RegionHeld3
import Derived.Deep.QuietTactic
import Derived.BigQuiet
set_option linter.unusedVariables false
set_option linter.unusedSimpArgs false
set_option linter.unnecessarySimpa false
namespace Go.Proofs.Ytipcgjigkipcpaa
open Go.RowKit

/-- One step of the mix. -/
def mixStep (h x : Int) : Int :=
  bits BinOp.xor IntKind.u64 (IntKind.u64.wrap (bits BinOp.xor IntKind.u64 h (IntKind.u64.wrap x) * 18397679294719823053)) (IntKind.u64.wrap (bits BinOp.xor IntKind.u64 h (IntKind.u64.wrap x) * 18397679294719823053) / 4294967296)
def mixTo (k0 k1 k2 k3 : Int) : Nat → Int
  | 0 => IntKind.u64.wrap (IntKind.u64.wrap k0 + 11400714819323198485)
  | 1 => mixStep (IntKind.u64.wrap (IntKind.u64.wrap k0 + 11400714819323198485)) k1
  | 2 => mixStep (mixStep (IntKind.u64.wrap (IntKind.u64.wrap k0 + 11400714819323198485)) k1) k2
  | _ => mixStep (mixStep (mixStep (IntKind.u64.wrap (IntKind.u64.wrap k0 + 11400714819323198485)) k1) k2) k3
def mixF (k0 k1 k2 k3 : Int) : Int := mixStep (mixStep (mixStep (IntKind.u64.wrap (IntKind.u64.wrap k0 + 11400714819323198485)) k1) k2) k3
theorem mixF_range (k0 k1 k2 k3 : Int) : 0 ≤ mixF k0 k1 k2 k3 ∧ mixF k0 k1 k2 k3 ≤ 18446744073709551615 := by
  unfold mixF mixStep
  exact bounds_u64 (wf_bits _ _ _ _)

set_option maxRecDepth 10000 in
set_option maxHeartbeats 400000 in
theorem mix_any (k0 k1 k2 k3 : Int) (w : World) :
    Calls Try.prog 109 #[.agg #[.int .i64 k0, .int .i64 k1, .int .i64 k2, .int .i64 k3]] w fun e w' => e = .returned (.int .u64 (mixF k0 k1 k2 k3)) ∧ Below w.heap.size w w' := by
  go_enter Try.func109, Try.ntmps109
  go_wp2
  go_loop [3, 18] (fun h i => ∃ (k : Nat), k ≤ 3 ∧ i = .int .i64 k ∧ h = .int .u64 (mixTo k0 k1 k2 k3 k)) (fun _ i => 3 - (intOf i).toNat)
  case atStart => exact ⟨0, by omega, rfl, rfl⟩
  case round =>
    obtain ⟨k, hk, rfl, rfl⟩ := hrel
    obtain rfl | rfl | rfl | rfl : k = 0 ∨ k = 1 ∨ k = 2 ∨ k = 3 := by omega
    · go_wp2
      go_round
      case rel => exact ⟨1, by omega, rfl, rfl⟩
      case measure => simp [intOf]
    · go_wp2
      go_round
      case rel => exact ⟨2, by omega, rfl, rfl⟩
      case measure => simp [intOf]
    · go_wp2
      go_round
      case rel => exact ⟨3, by omega, rfl, rfl⟩
      case measure => simp [intOf]
    · go_wp2
      go_ret
      exact ⟨rfl, ((Below.refl _ _).alloc (Nat.le_refl _) _).alloc (by simp) _⟩

/-- The place of what is asked, of n. -/
def slotOf (n : Nat) (k0 k1 k2 k3 : Int) : Nat := (mixF k0 k1 k2 k3 % (n : Int)).toNat
theorem slotOf_lt (n : Nat) (k0 k1 k2 k3 : Int) (hn : 0 < n) : slotOf n k0 k1 k2 k3 < n := by
  unfold slotOf
  have h1 := Int.emod_nonneg (mixF k0 k1 k2 k3) (b := (n : Int)) (by omega)
  have h2 := Int.emod_lt_of_pos (mixF k0 k1 k2 k3) (b := (n : Int)) (by omega)
  omega
set_option maxRecDepth 10000 in
set_option maxHeartbeats 400000 in
theorem at_core (b bp n i : Nat) (k0 k1 k2 k3 h : Int) (hn1 : (0 : Int) < (n : Int)) (hn2 : ¬ n = 0) (hr1 : 0 ≤ h) (hm : h.tmod (n : Int) = (i : Int)) (hu : IntKind.u64.wrap (n : Int) = n) (hlt : i < n) (hlt' : (i : Int) < (n : Int))
    (mix : ∀ W : World, Calls Try.prog 109 #[.agg #[.int .i64 k0, .int .i64 k1, .int .i64 k2, .int .i64 k3]] W fun e w' => e = .returned (.int .u64 h) ∧ Below W.heap.size W w')
    (w : World) (h0 : w.cell? ⟨b, 0, none⟩ = some (.slice (some ⟨bp, 0, none⟩) n n)) (hbw : b < w.heap.size) :
    Calls Try.prog 105 #[.pointer (some ⟨b, 0, none⟩), .agg #[.int .i64 k0, .int .i64 k1, .int .i64 k2, .int .i64 k3]] w fun e w' => e = .returned (.pointer (some ⟨bp, i * 6, none⟩)) ∧ Below w.heap.size w w' := by
  go_enter Try.func105, Try.ntmps105
  go_wp2
  go_region_held3 (fun w' => w'.cell? ⟨b, 0, none⟩ = some (.slice (some ⟨bp, 0, none⟩) n n) ∧ w'.cell? ⟨w.heap.size, 0, none⟩ = some (.int .i64 k0) ∧ w'.cell? ⟨w.heap.size, 1, none⟩ = some (.int .i64 k1) ∧ w'.cell? ⟨w.heap.size, 2, none⟩ = some (.int .i64 k2) ∧ w'.cell? ⟨w.heap.size, 3, none⟩ = some (.int .i64 k3)) (simp [go_sem, World.cell?_alloc_past, *]) ((first | (go_at_call 109; refine (mix _).mono ?_; rintro e w' ⟨rfl, hb⟩; have hc := (bcell hb).1)))
  go_wp2
  go_ret
  exact ⟨rfl, ((Below.refl _ _).alloc (Nat.le_refl _) _).drew.trans (hb.mono (by simp))⟩

theorem at_any (b bp n : Nat) (k0 k1 k2 k3 : Int) (hn0 : 0 < n) (hn : n ≤ 65536) (w : World) (h0 : w.cell? ⟨b, 0, none⟩ = some (.slice (some ⟨bp, 0, none⟩) n n)) :
    Calls Try.prog 105 #[.pointer (some ⟨b, 0, none⟩), .agg #[.int .i64 k0, .int .i64 k1, .int .i64 k2, .int .i64 k3]] w fun e w' => e = .returned (.pointer (some ⟨bp, slotOf n k0 k1 k2 k3 * 6, none⟩)) ∧ Below w.heap.size w w' := by
  have hr := mixF_range k0 k1 k2 k3
  have hlt := slotOf_lt n k0 k1 k2 k3 hn0
  refine at_core b bp n _ k0 k1 k2 k3 _ (by omega) (by omega) hr.1 ?_ (IntWalk.u64_in _ (by omega)) hlt (by omega) (fun W => mix_any k0 k1 k2 k3 W) w h0 (lt_of_cell h0)
  rw [Int.tmod_eq_emod_of_nonneg hr.1]; unfold slotOf; have := Int.emod_nonneg (mixF k0 k1 k2 k3) (b := (n : Int)) (by omega); omega

/-- What was asked: four numbers. -/
abbrev CKey := Int × Int × Int × Int
/-- A place's cells: nothing is there; or what was asked, and the answer. -/
def placeCells : Option (CKey × Int) → List Value
  | none => [.int .i64 0, .int .i64 0, .int .i64 0, .int .i64 0, .int .i64 0, .bool false]
  | some ((a, b, c, d), x) => [.int .i64 a, .int .i64 b, .int .i64 c, .int .i64 d, .int .i64 x, .bool true]

set_option maxRecDepth 10000 in
set_option maxHeartbeats 800000 in
theorem key_neq (k0 k1 k2 k3 a0 a1 a2 a3 : Int) (hne : ¬ (a0 = k0 ∧ a1 = k1 ∧ a2 = k2 ∧ a3 = k3)) (w : World) :
    (binOp .neq 143 (.agg #[.int .i64 a0, .int .i64 a1, .int .i64 a2, .int .i64 a3]) (.agg #[.int .i64 k0, .int .i64 k1, .int .i64 k2, .int .i64 k3])).run Try.prog w = .ok (.bool true) w := by
  by_cases h0 : a0 = k0
  · subst h0
    by_cases h1 : a1 = k1
    · subst h1
      by_cases h2 : a2 = k2
      · subst h2
        by_cases h3 : a3 = k3
        · exact absurd ⟨rfl, rfl, rfl, h3⟩ hne
        · have h3' : (a3 == k3) = false := by simpa using h3
          simp [go_sem, h3', h3]
      · have h3' : (a2 == k2) = false := by simpa using h2
        simp [go_sem, h3', h2]
    · have h3' : (a1 == k1) = false := by simpa using h1
      simp [go_sem, h3', h1]
  · have h3' : (a0 == k0) = false := by simpa using h0
    simp [go_sem, h3', h0]

/-- The object's block. -/
def cobj (bp n : Nat) (hits : Int) : Obj := .cells #[.slice (some ⟨bp, 0, none⟩) n n, .int .i64 hits] 125 (0, 0)

def HitPost (b bp n : Nat) (hits x : Int) (w : World) (e : Ending) (w' : World) : Prop :=
  e = .returned (.tuple #[.int .i64 x, .bool true]) ∧ Keeps (fun k => k = b) w w' ∧ w'.heap[b]? = some (cobj bp n (hits + 1))

set_option maxRecDepth 10000 in
set_option maxHeartbeats 800000 in
theorem cacheGet_hit (b bp n i : Nat) (hits x : Int) (k0 k1 k2 k3 : Int) (hh : 0 ≤ hits) (hh' : hits ≤ 100000000) (w : World)
    (hat : ∀ W : World, W.cell? ⟨b, 0, none⟩ = some (.slice (some ⟨bp, 0, none⟩) n n) → Calls Try.prog 105 #[.pointer (some ⟨b, 0, none⟩), .agg #[.int .i64 k0, .int .i64 k1, .int .i64 k2, .int .i64 k3]] W fun e w' => e = .returned (.pointer (some ⟨bp, i * 6, none⟩)) ∧ Below W.heap.size W w')
    (hbw : b < w.heap.size) (hpw : bp < w.heap.size) (hobj : Hid (w.heap[b]? = some (cobj bp n hits)))
    (c0 : w.cell? ⟨bp, i * 6, none⟩ = some (.int .i64 k0)) (c1 : w.cell? ⟨bp, i * 6 + 1, none⟩ = some (.int .i64 k1)) (c2 : w.cell? ⟨bp, i * 6 + 2, none⟩ = some (.int .i64 k2)) (c3 : w.cell? ⟨bp, i * 6 + 3, none⟩ = some (.int .i64 k3)) (c4 : w.cell? ⟨bp, i * 6 + 4, none⟩ = some (.int .i64 x)) (c5 : w.cell? ⟨bp, i * 6 + 5, none⟩ = some (.bool true)) :
    Calls Try.prog 93 #[.pointer (some ⟨b, 0, none⟩), .int .i64 k0, .int .i64 k1, .int .i64 k2, .int .i64 k3] w (HitPost b bp n hits x w) := by
  have h0 : w.cell? ⟨b, 0, none⟩ = some (.slice (some ⟨bp, 0, none⟩) n n) := by rw [cell_of_heap hobj.out]; rfl
  have h1 : w.cell? ⟨b, 1, none⟩ = some (.int .i64 hits) := by rw [cell_of_heap hobj.out]; rfl
  have f1 : w.frozen? ⟨b, 1, none⟩ = false := free_of_heap hobj.out 1
  go_enter Try.func93, Try.ntmps93
  go_wp2_with (first | (go_at_call 105; refine (hat _ ?_).mono ?_; (focus (simp [go_sem, World.cell?_alloc_past, *]; done)); rintro e w' ⟨rfl, hb⟩; have hc := (bcell hb).1; have hf := (bcell hb).2))
  go_quiet (fail)
  go_wp2
  go_ret2
  refine ⟨rfl, ?_, ?_⟩
  · refine Keeps.setCell (S := fun k => k = b) ?_ (p := ⟨b, 1, none⟩) (fun _ => rfl) _
    exact (((Keeps.refl _ _).alloc _).trans (Keeps.of_below hb (Nat.le_refl _))).drewN _
  · have e1 : (w'.drewN nq).heap[b]? = some (cobj bp n hits) := by
      show w'.heap[b]? = _
      rw [hb.block b (by simp; omega), Below.heap_alloc _ _ _ hbw]; exact hobj.out
    exact heap_set e1 1 _

set_option maxRecDepth 10000 in
set_option maxHeartbeats 800000 in
theorem cacheGet_none (b bp n i : Nat) (hits : Int) (k0 k1 k2 k3 : Int) (w : World)
    (hat : ∀ W : World, W.cell? ⟨b, 0, none⟩ = some (.slice (some ⟨bp, 0, none⟩) n n) → Calls Try.prog 105 #[.pointer (some ⟨b, 0, none⟩), .agg #[.int .i64 k0, .int .i64 k1, .int .i64 k2, .int .i64 k3]] W fun e w' => e = .returned (.pointer (some ⟨bp, i * 6, none⟩)) ∧ Below W.heap.size W w')
    (hbw : b < w.heap.size) (hpw : bp < w.heap.size) (h0 : w.cell? ⟨b, 0, none⟩ = some (.slice (some ⟨bp, 0, none⟩) n n))
    (c5 : w.cell? ⟨bp, i * 6 + 5, none⟩ = some (.bool false)) :
    Calls Try.prog 93 #[.pointer (some ⟨b, 0, none⟩), .int .i64 k0, .int .i64 k1, .int .i64 k2, .int .i64 k3] w fun e w' => e = .returned (.tuple #[.int .i64 0, .bool false]) ∧ Below w.heap.size w w' := by
  go_enter Try.func93, Try.ntmps93
  go_wp2_with (first | (go_at_call 105; refine (hat _ ?_).mono ?_; (focus (simp [go_sem, World.cell?_alloc_past, *]; done)); rintro e w' ⟨rfl, hb⟩; have hc := (bcell hb).1; have hf := (bcell hb).2))
  go_quiet (fail)
  go_wp2
  go_ret2
  exact ⟨rfl, below_drewN (((Below.refl _ _).alloc (Nat.le_refl _) _).trans (hb.mono (by simp))) _⟩

set_option maxRecDepth 10000 in
set_option maxHeartbeats 800000 in
theorem cacheGet_other (b bp n i : Nat) (hits x : Int) (k0 k1 k2 k3 a0 a1 a2 a3 : Int) (hne : ¬ (a0 = k0 ∧ a1 = k1 ∧ a2 = k2 ∧ a3 = k3)) (w : World)
    (hat : ∀ W : World, W.cell? ⟨b, 0, none⟩ = some (.slice (some ⟨bp, 0, none⟩) n n) → Calls Try.prog 105 #[.pointer (some ⟨b, 0, none⟩), .agg #[.int .i64 k0, .int .i64 k1, .int .i64 k2, .int .i64 k3]] W fun e w' => e = .returned (.pointer (some ⟨bp, i * 6, none⟩)) ∧ Below W.heap.size W w')
    (hbw : b < w.heap.size) (hpw : bp < w.heap.size) (h0 : w.cell? ⟨b, 0, none⟩ = some (.slice (some ⟨bp, 0, none⟩) n n))
    (c0 : w.cell? ⟨bp, i * 6, none⟩ = some (.int .i64 a0)) (c1 : w.cell? ⟨bp, i * 6 + 1, none⟩ = some (.int .i64 a1)) (c2 : w.cell? ⟨bp, i * 6 + 2, none⟩ = some (.int .i64 a2)) (c3 : w.cell? ⟨bp, i * 6 + 3, none⟩ = some (.int .i64 a3)) (c4 : w.cell? ⟨bp, i * 6 + 4, none⟩ = some (.int .i64 x)) (c5 : w.cell? ⟨bp, i * 6 + 5, none⟩ = some (.bool true)) :
    Calls Try.prog 93 #[.pointer (some ⟨b, 0, none⟩), .int .i64 k0, .int .i64 k1, .int .i64 k2, .int .i64 k3] w fun e w' => e = .returned (.tuple #[.int .i64 0, .bool false]) ∧ Below w.heap.size w w' := by
  have hkn := key_neq k0 k1 k2 k3 a0 a1 a2 a3 hne
  go_enter Try.func93, Try.ntmps93
  go_wp2_with (first | (go_at_call 105; refine (hat _ ?_).mono ?_; (focus (simp [go_sem, World.cell?_alloc_past, *]; done)); rintro e w' ⟨rfl, hb⟩; have hc := (bcell hb).1; have hf := (bcell hb).2))
  go_quiet (fail)
  go_wp2
  go_ret2
  exact ⟨rfl, below_drewN (((Below.refl _ _).alloc (Nat.le_refl _) _).trans (hb.mono (by simp))) _⟩
end Go.Proofs.Ytipcgjigkipcpaa
