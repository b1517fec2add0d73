/-
  Walks through layer 15 (cache).
-/
import Derived.Test.YtloidoekmicloaaProg
import Derived.Test.YtloidoekmicloaaKit
import Derived.WalkKit
import Derived.WalkSpells
import Derived.WalkLawsBesides
import Derived.Deep.RegionHeld3
import Derived.Deep.QuietTactic
import Derived.BigQuiet
import Derived.Lib.Hide
set_option linter.unusedVariables false
set_option linter.unusedSimpArgs false
set_option linter.unnecessarySimpa false
namespace Go.Proofs.Ytloidoekmicloaa
open Go.RowKit

/-- One step of the mix. -/
def mixStep (h x : Int) : Int :=
  bits BinOp.xor IntKind.u64 (IntKind.u64.wrap (bits BinOp.xor IntKind.u64 h (IntKind.u64.wrap x) * 18397679294719823053)) (IntKind.u64.wrap (bits BinOp.xor IntKind.u64 h (IntKind.u64.wrap x) * 18397679294719823053) / 4294967296)
def mixTo (k0 k1 k2 k3 : Int) : Nat → Int
  | 0 => IntKind.u64.wrap (IntKind.u64.wrap k0 + 11400714819323198485)
  | 1 => mixStep (IntKind.u64.wrap (IntKind.u64.wrap k0 + 11400714819323198485)) k1
  | 2 => mixStep (mixStep (IntKind.u64.wrap (IntKind.u64.wrap k0 + 11400714819323198485)) k1) k2
  | _ => mixStep (mixStep (mixStep (IntKind.u64.wrap (IntKind.u64.wrap k0 + 11400714819323198485)) k1) k2) k3
def mixF (k0 k1 k2 k3 : Int) : Int := mixStep (mixStep (mixStep (IntKind.u64.wrap (IntKind.u64.wrap k0 + 11400714819323198485)) k1) k2) k3
theorem mixF_range (k0 k1 k2 k3 : Int) : 0 ≤ mixF k0 k1 k2 k3 ∧ mixF k0 k1 k2 k3 ≤ 18446744073709551615 := by
  unfold mixF mixStep
  exact bounds_u64 (wf_bits _ _ _ _)

set_option maxRecDepth 10000 in
set_option maxHeartbeats 400000 in
theorem mix_any (k0 k1 k2 k3 : Int) (w : World) :
    Calls Try.prog 89 #[.agg #[.int .i64 k0, .int .i64 k1, .int .i64 k2, .int .i64 k3]] w fun e w' => e = .returned (.int .u64 (mixF k0 k1 k2 k3)) ∧ Below w.heap.size w w' := by
  go_enter Try.func89, Try.ntmps89
  go_wp2
  go_loop [3, 18] (fun h i => ∃ (k : Nat), k ≤ 3 ∧ i = .int .i64 k ∧ h = .int .u64 (mixTo k0 k1 k2 k3 k)) (fun _ i => 3 - (intOf i).toNat)
  case atStart => exact ⟨0, by omega, rfl, rfl⟩
  case round =>
    obtain ⟨k, hk, rfl, rfl⟩ := hrel
    obtain rfl | rfl | rfl | rfl : k = 0 ∨ k = 1 ∨ k = 2 ∨ k = 3 := by omega
    · go_wp2
      go_round
      case rel => exact ⟨1, by omega, rfl, rfl⟩
      case measure => simp [intOf]
    · go_wp2
      go_round
      case rel => exact ⟨2, by omega, rfl, rfl⟩
      case measure => simp [intOf]
    · go_wp2
      go_round
      case rel => exact ⟨3, by omega, rfl, rfl⟩
      case measure => simp [intOf]
    · go_wp2
      go_ret
      exact ⟨rfl, ((Below.refl _ _).alloc (Nat.le_refl _) _).alloc (by simp) _⟩

/-- The place of what is asked, of n. -/
def slotOf (n : Nat) (k0 k1 k2 k3 : Int) : Nat := (mixF k0 k1 k2 k3 % (n : Int)).toNat
theorem slotOf_lt (n : Nat) (k0 k1 k2 k3 : Int) (hn : 0 < n) : slotOf n k0 k1 k2 k3 < n := by
  unfold slotOf
  have h1 := Int.emod_nonneg (mixF k0 k1 k2 k3) (b := (n : Int)) (by omega)
  have h2 := Int.emod_lt_of_pos (mixF k0 k1 k2 k3) (b := (n : Int)) (by omega)
  omega
set_option maxRecDepth 10000 in
set_option maxHeartbeats 400000 in
theorem at_core (b bp n i : Nat) (k0 k1 k2 k3 h : Int) (hn1 : (0 : Int) < (n : Int)) (hn2 : ¬ n = 0) (hr1 : 0 ≤ h) (hm : h.tmod (n : Int) = (i : Int)) (hu : IntKind.u64.wrap (n : Int) = n) (hlt : i < n) (hlt' : (i : Int) < (n : Int))
    (mix : ∀ W : World, Calls Try.prog 89 #[.agg #[.int .i64 k0, .int .i64 k1, .int .i64 k2, .int .i64 k3]] W fun e w' => e = .returned (.int .u64 h) ∧ Below W.heap.size W w')
    (w : World) (h0 : w.cell? ⟨b, 0, none⟩ = some (.slice (some ⟨bp, 0, none⟩) n n)) (hbw : b < w.heap.size) :
    Calls Try.prog 82 #[.pointer (some ⟨b, 0, none⟩), .agg #[.int .i64 k0, .int .i64 k1, .int .i64 k2, .int .i64 k3]] w fun e w' => e = .returned (.pointer (some ⟨bp, i * 6, none⟩)) ∧ Below w.heap.size w w' := by
  go_enter Try.func82, Try.ntmps82
  go_wp2
  go_region_held3 (fun w' => w'.cell? ⟨b, 0, none⟩ = some (.slice (some ⟨bp, 0, none⟩) n n) ∧ w'.cell? ⟨w.heap.size, 0, none⟩ = some (.int .i64 k0) ∧ w'.cell? ⟨w.heap.size, 1, none⟩ = some (.int .i64 k1) ∧ w'.cell? ⟨w.heap.size, 2, none⟩ = some (.int .i64 k2) ∧ w'.cell? ⟨w.heap.size, 3, none⟩ = some (.int .i64 k3)) (simp [go_sem, World.cell?_alloc_past, *]) ((first | (go_at_call 89; refine (mix _).mono ?_; rintro e w' ⟨rfl, hb⟩; have hc := (bcell hb).1)))
  go_wp2
  go_ret
  exact ⟨rfl, ((Below.refl _ _).alloc (Nat.le_refl _) _).drew.trans (hb.mono (by simp))⟩

theorem at_any (b bp n : Nat) (k0 k1 k2 k3 : Int) (hn0 : 0 < n) (hn : n ≤ 65536) (w : World) (h0 : w.cell? ⟨b, 0, none⟩ = some (.slice (some ⟨bp, 0, none⟩) n n)) :
    Calls Try.prog 82 #[.pointer (some ⟨b, 0, none⟩), .agg #[.int .i64 k0, .int .i64 k1, .int .i64 k2, .int .i64 k3]] w fun e w' => e = .returned (.pointer (some ⟨bp, slotOf n k0 k1 k2 k3 * 6, none⟩)) ∧ Below w.heap.size w w' := by
  have hr := mixF_range k0 k1 k2 k3
  have hlt := slotOf_lt n k0 k1 k2 k3 hn0
  refine at_core b bp n _ k0 k1 k2 k3 _ (by omega) (by omega) hr.1 ?_ (IntWalk.u64_in _ (by omega)) hlt (by omega) (fun W => mix_any k0 k1 k2 k3 W) w h0 (lt_of_cell h0)
  rw [Int.tmod_eq_emod_of_nonneg hr.1]; unfold slotOf; have := Int.emod_nonneg (mixF k0 k1 k2 k3) (b := (n : Int)) (by omega); omega

/-- What was asked: four numbers. -/
abbrev CKey := Int × Int × Int × Int
/-- A place's cells: nothing is there; or what was asked, and the answer. -/
def placeCells : Option (CKey × Int) → List Value
  | none => [.int .i64 0, .int .i64 0, .int .i64 0, .int .i64 0, .int .i64 0, .bool false]
  | some ((a, b, c, d), x) => [.int .i64 a, .int .i64 b, .int .i64 c, .int .i64 d, .int .i64 x, .bool true]

set_option maxRecDepth 10000 in
set_option maxHeartbeats 800000 in
theorem key_neq (k0 k1 k2 k3 a0 a1 a2 a3 : Int) (hne : ¬ (a0 = k0 ∧ a1 = k1 ∧ a2 = k2 ∧ a3 = k3)) (w : World) :
    (binOp .neq 126 (.agg #[.int .i64 a0, .int .i64 a1, .int .i64 a2, .int .i64 a3]) (.agg #[.int .i64 k0, .int .i64 k1, .int .i64 k2, .int .i64 k3])).run Try.prog w = .ok (.bool true) w := by
  by_cases h0 : a0 = k0
  · subst h0
    by_cases h1 : a1 = k1
    · subst h1
      by_cases h2 : a2 = k2
      · subst h2
        by_cases h3 : a3 = k3
        · exact absurd ⟨rfl, rfl, rfl, h3⟩ hne
        · have h3' : (a3 == k3) = false := by simpa using h3
          simp [go_sem, h3', h3]
      · have h3' : (a2 == k2) = false := by simpa using h2
        simp [go_sem, h3', h2]
    · have h3' : (a1 == k1) = false := by simpa using h1
      simp [go_sem, h3', h1]
  · have h3' : (a0 == k0) = false := by simpa using h0
    simp [go_sem, h3', h0]

/-- The object's block. -/
def cobj (bp n : Nat) (hits : Int) : Obj := .cells #[.slice (some ⟨bp, 0, none⟩) n n, .int .i64 hits] 90 (0, 0)

def HitPost (b bp n : Nat) (hits x : Int) (w : World) (e : Ending) (w' : World) : Prop :=
  e = .returned (.tuple #[.int .i64 x, .bool true]) ∧ Keeps (fun k => k = b) w w' ∧ w'.heap[b]? = some (cobj bp n (hits + 1))

set_option maxRecDepth 10000 in
set_option maxHeartbeats 800000 in
theorem cacheGet_hit (b bp n i : Nat) (hits x : Int) (k0 k1 k2 k3 : Int) (hh : 0 ≤ hits) (hh' : hits ≤ 100000000) (w : World)
    (hat : ∀ W : World, W.cell? ⟨b, 0, none⟩ = some (.slice (some ⟨bp, 0, none⟩) n n) → Calls Try.prog 82 #[.pointer (some ⟨b, 0, none⟩), .agg #[.int .i64 k0, .int .i64 k1, .int .i64 k2, .int .i64 k3]] W fun e w' => e = .returned (.pointer (some ⟨bp, i * 6, none⟩)) ∧ Below W.heap.size W w')
    (hbw : b < w.heap.size) (hpw : bp < w.heap.size) (hobj : Hid (w.heap[b]? = some (cobj bp n hits)))
    (c0 : w.cell? ⟨bp, i * 6, none⟩ = some (.int .i64 k0)) (c1 : w.cell? ⟨bp, i * 6 + 1, none⟩ = some (.int .i64 k1)) (c2 : w.cell? ⟨bp, i * 6 + 2, none⟩ = some (.int .i64 k2)) (c3 : w.cell? ⟨bp, i * 6 + 3, none⟩ = some (.int .i64 k3)) (c4 : w.cell? ⟨bp, i * 6 + 4, none⟩ = some (.int .i64 x)) (c5 : w.cell? ⟨bp, i * 6 + 5, none⟩ = some (.bool true)) :
    Calls Try.prog 67 #[.pointer (some ⟨b, 0, none⟩), .int .i64 k0, .int .i64 k1, .int .i64 k2, .int .i64 k3] w (HitPost b bp n hits x w) := by
  have h0 : w.cell? ⟨b, 0, none⟩ = some (.slice (some ⟨bp, 0, none⟩) n n) := by rw [cell_of_heap hobj.out]; rfl
  have h1 : w.cell? ⟨b, 1, none⟩ = some (.int .i64 hits) := by rw [cell_of_heap hobj.out]; rfl
  have f1 : w.frozen? ⟨b, 1, none⟩ = false := free_of_heap hobj.out 1
  go_enter Try.func67, Try.ntmps67
  go_wp2_with (first | (go_at_call 82; refine (hat _ ?_).mono ?_; (focus (simp [go_sem, World.cell?_alloc_past, *]; done)); rintro e w' ⟨rfl, hb⟩; have hc := (bcell hb).1; have hf := (bcell hb).2))
  go_quiet (fail)
  go_wp2
  go_ret2
  refine ⟨rfl, ?_, ?_⟩
  · refine Keeps.setCell (S := fun k => k = b) ?_ (p := ⟨b, 1, none⟩) (fun _ => rfl) _
    exact (((Keeps.refl _ _).alloc _).trans (Keeps.of_below hb (Nat.le_refl _))).drewN _
  · have e1 : (w'.drewN nq).heap[b]? = some (cobj bp n hits) := by
      show w'.heap[b]? = _
      rw [hb.block b (by simp; omega), Below.heap_alloc _ _ _ hbw]; exact hobj.out
    exact heap_set e1 1 _

set_option maxRecDepth 10000 in
set_option maxHeartbeats 800000 in
theorem cacheGet_none (b bp n i : Nat) (hits : Int) (k0 k1 k2 k3 : Int) (w : World)
    (hat : ∀ W : World, W.cell? ⟨b, 0, none⟩ = some (.slice (some ⟨bp, 0, none⟩) n n) → Calls Try.prog 82 #[.pointer (some ⟨b, 0, none⟩), .agg #[.int .i64 k0, .int .i64 k1, .int .i64 k2, .int .i64 k3]] W fun e w' => e = .returned (.pointer (some ⟨bp, i * 6, none⟩)) ∧ Below W.heap.size W w')
    (hbw : b < w.heap.size) (hpw : bp < w.heap.size) (h0 : w.cell? ⟨b, 0, none⟩ = some (.slice (some ⟨bp, 0, none⟩) n n))
    (c5 : w.cell? ⟨bp, i * 6 + 5, none⟩ = some (.bool false)) :
    Calls Try.prog 67 #[.pointer (some ⟨b, 0, none⟩), .int .i64 k0, .int .i64 k1, .int .i64 k2, .int .i64 k3] w fun e w' => e = .returned (.tuple #[.int .i64 0, .bool false]) ∧ Below w.heap.size w w' := by
  go_enter Try.func67, Try.ntmps67
  go_wp2_with (first | (go_at_call 82; refine (hat _ ?_).mono ?_; (focus (simp [go_sem, World.cell?_alloc_past, *]; done)); rintro e w' ⟨rfl, hb⟩; have hc := (bcell hb).1; have hf := (bcell hb).2))
  go_quiet (fail)
  go_wp2
  go_ret2
  exact ⟨rfl, below_drewN (((Below.refl _ _).alloc (Nat.le_refl _) _).trans (hb.mono (by simp))) _⟩

set_option maxRecDepth 10000 in
set_option maxHeartbeats 800000 in
theorem cacheGet_other (b bp n i : Nat) (hits x : Int) (k0 k1 k2 k3 a0 a1 a2 a3 : Int) (hne : ¬ (a0 = k0 ∧ a1 = k1 ∧ a2 = k2 ∧ a3 = k3)) (w : World)
    (hat : ∀ W : World, W.cell? ⟨b, 0, none⟩ = some (.slice (some ⟨bp, 0, none⟩) n n) → Calls Try.prog 82 #[.pointer (some ⟨b, 0, none⟩), .agg #[.int .i64 k0, .int .i64 k1, .int .i64 k2, .int .i64 k3]] W fun e w' => e = .returned (.pointer (some ⟨bp, i * 6, none⟩)) ∧ Below W.heap.size W w')
    (hbw : b < w.heap.size) (hpw : bp < w.heap.size) (h0 : w.cell? ⟨b, 0, none⟩ = some (.slice (some ⟨bp, 0, none⟩) n n))
    (c0 : w.cell? ⟨bp, i * 6, none⟩ = some (.int .i64 a0)) (c1 : w.cell? ⟨bp, i * 6 + 1, none⟩ = some (.int .i64 a1)) (c2 : w.cell? ⟨bp, i * 6 + 2, none⟩ = some (.int .i64 a2)) (c3 : w.cell? ⟨bp, i * 6 + 3, none⟩ = some (.int .i64 a3)) (c4 : w.cell? ⟨bp, i * 6 + 4, none⟩ = some (.int .i64 x)) (c5 : w.cell? ⟨bp, i * 6 + 5, none⟩ = some (.bool true)) :
    Calls Try.prog 67 #[.pointer (some ⟨b, 0, none⟩), .int .i64 k0, .int .i64 k1, .int .i64 k2, .int .i64 k3] w fun e w' => e = .returned (.tuple #[.int .i64 0, .bool false]) ∧ Below w.heap.size w w' := by
  have hkn := key_neq k0 k1 k2 k3 a0 a1 a2 a3 hne
  go_enter Try.func67, Try.ntmps67
  go_wp2_with (first | (go_at_call 82; refine (hat _ ?_).mono ?_; (focus (simp [go_sem, World.cell?_alloc_past, *]; done)); rintro e w' ⟨rfl, hb⟩; have hc := (bcell hb).1; have hf := (bcell hb).2))
  go_quiet (fail)
  go_wp2
  go_ret2
  exact ⟨rfl, below_drewN (((Below.refl _ _).alloc (Nat.le_refl _) _).trans (hb.mono (by simp))) _⟩
end Go.Proofs.Ytloidoekmicloaa
/-
  Walks through layer 15 (cache): Put, New, Clear, Hits, Size.
-/
set_option linter.unusedVariables false
set_option linter.unusedSimpArgs false
set_option linter.unnecessarySimpa false
namespace Go.Proofs.Ytloidoekmicloaa
open Go.RowKit

def PutPost (bp i : Nat) (k0 k1 k2 k3 x : Int) (w : World) (e : Ending) (w' : World) : Prop :=
  e = .returned (.tuple #[]) ∧ Keeps (fun k => k = bp) w w' ∧ (∀ o, w'.frozen? ⟨bp, o, none⟩ = w.frozen? ⟨bp, o, none⟩) ∧
    (∀ o, o < i * 6 ∨ i * 6 + 6 ≤ o → w'.cell? ⟨bp, o, none⟩ = w.cell? ⟨bp, o, none⟩) ∧
    (∀ (j : Nat) (v : Value), (placeCells (some ((k0, k1, k2, k3), x)))[j]? = some v → w'.cell? ⟨bp, i * 6 + j, none⟩ = some v)

set_option maxRecDepth 10000 in
set_option maxHeartbeats 800000 in
theorem cachePut_any (b bp n i : Nat) (k0 k1 k2 k3 x : Int) (w : World)
    (hat : ∀ W : World, W.cell? ⟨b, 0, none⟩ = some (.slice (some ⟨bp, 0, none⟩) n n) → Calls Try.prog 82 #[.pointer (some ⟨b, 0, none⟩), .agg #[.int .i64 k0, .int .i64 k1, .int .i64 k2, .int .i64 k3]] W fun e w' => e = .returned (.pointer (some ⟨bp, i * 6, none⟩)) ∧ Below W.heap.size W w')
    (hbw : b < w.heap.size) (hpw : bp < w.heap.size) (hne : ¬ b = bp) (h0 : w.cell? ⟨b, 0, none⟩ = some (.slice (some ⟨bp, 0, none⟩) n n))
    (f0 : ∀ o, w.frozen? ⟨bp, o, none⟩ = false) (y0 y1 y2 y3 y4 y5 : Value) (c0 : w.cell? ⟨bp, i * 6, none⟩ = some y0) (c1 : w.cell? ⟨bp, i * 6 + 1, none⟩ = some y1) (c2 : w.cell? ⟨bp, i * 6 + 2, none⟩ = some y2) (c3 : w.cell? ⟨bp, i * 6 + 3, none⟩ = some y3) (c4 : w.cell? ⟨bp, i * 6 + 4, none⟩ = some y4) (c5 : w.cell? ⟨bp, i * 6 + 5, none⟩ = some y5) :
    Calls Try.prog 70 #[.pointer (some ⟨b, 0, none⟩), .int .i64 k0, .int .i64 k1, .int .i64 k2, .int .i64 k3, .int .i64 x] w (PutPost bp i k0 k1 k2 k3 x w) := by
  have hne2 : ¬ w.heap.size = bp := by omega
  go_enter Try.func70, Try.ntmps70
  go_wp2
  go_region_held3 (fun w' => w'.cell? ⟨b, 0, none⟩ = some (.slice (some ⟨bp, 0, none⟩) n n) ∧ w'.cell? ⟨w.heap.size, 0, none⟩ = some (.int .i64 k0) ∧ w'.cell? ⟨w.heap.size, 1, none⟩ = some (.int .i64 k1) ∧ w'.cell? ⟨w.heap.size, 2, none⟩ = some (.int .i64 k2) ∧ w'.cell? ⟨w.heap.size, 3, none⟩ = some (.int .i64 k3)) (simp [go_sem, World.cell?_alloc_past, *]) ((first | (go_at_call 82; refine (hat _ ?_).mono ?_; (focus (simp [go_sem, World.cell?_alloc_past, *]; done)); rintro e w' ⟨rfl, hb⟩; have hc := (bcell hb).1; have hf := (bcell hb).2)))
  go_wp2
  go_end0
  have hz : w.heap.size < (w.alloc (.cells #[.int .i64 k0, .int .i64 k1, .int .i64 k2, .int .i64 k3] 126)).drew.heap.size := by simp
  have e1 : ∀ o, w'.cell? ⟨bp, o, none⟩ = w.cell? ⟨bp, o, none⟩ := fun o => by
    rw [hc bp o (by omega)]; simp [go_sem, World.cell?_alloc_past, hpw]
  have e2 : ∀ o, w'.frozen? ⟨bp, o, none⟩ = w.frozen? ⟨bp, o, none⟩ := fun o => by
    rw [hf bp o (by omega)]; exact World.frozen?_alloc_old _ _ _ (by simp; omega)
  have e3 : ∀ j, j < 6 → (w'.cell? ⟨bp, i * 6 + j, none⟩).isSome = true := fun j hj => by
    rw [e1]
    match j, hj with
    | 0, _ => simp [c0]
    | 1, _ => simp [c1]
    | 2, _ => simp [c2]
    | 3, _ => simp [c3]
    | 4, _ => simp [c4]
    | 5, _ => simp [c5]
  show PutPost bp i k0 k1 k2 k3 x w (.returned (.tuple #[])) (w'.setCells bp (i * 6) [.int .i64 k0, .int .i64 k1, .int .i64 k2, .int .i64 k3, .int .i64 x, .bool true])
  refine ⟨rfl, ?_, fun o => by rw [frozen_setCells, e2], fun o ho => ?_, fun j v hj => ?_⟩
  · exact Keeps.setCells (S := fun k => k = bp) bp (fun _ => rfl) _ _ _ (((Keeps.refl _ _).alloc _).drew.trans (Keeps.of_below hb (Nat.le_refl _)))
  · rw [World.cell?_setCells_out _ _ _ _ _ (fun _ _ => by simpa using ho), e1]
  · have hj' : j < 6 := by
      rcases Nat.lt_or_ge j 6 with h | h
      · exact h
      · rw [List.getElem?_eq_none (by simpa [placeCells] using h)] at hj; cases hj
    rw [World.cell?_setCells_in _ _ _ _ (by simpa using e3) j (by simpa using hj')]
    rw [← hj]
    simp only [placeCells]
    rw [List.getElem?_eq_getElem (by simpa using hj')]
/-- A power of two up to 65536, whose half is below what is asked for. -/
def PowFor (sz : Int) (N : Nat) : Prop := ∃ j : Nat, j ≤ 16 ∧ 2 ^ j = N ∧ (0 < j → ((2 ^ (j - 1) : Nat) : Int) < sz)
def top16 : Nat := 65536
theorem PowFor.one (sz : Int) : PowFor sz 1 := ⟨0, by omega, rfl, by omega⟩
theorem PowFor.bounds {sz : Int} {N : Nat} (h : PowFor sz N) : 1 ≤ N ∧ N ≤ 65536 := by
  obtain ⟨j, hj, rfl, _⟩ := h
  exact ⟨Nat.one_le_two_pow, Nat.pow_le_pow_right (n := 2) (by decide) hj⟩
theorem PowFor.twice {sz : Int} {N : Nat} (h : PowFor sz N) (h1 : (N : Int) < sz) (h2 : N < 65536) : PowFor sz (N * 2) := by
  obtain ⟨j, hj, rfl, _⟩ := h
  have : j < 16 := by
    rcases Nat.lt_or_ge j 16 with h | h
    · exact h
    · have := Nat.pow_le_pow_right (n := 2) (by decide) h; omega
  exact ⟨j + 1, by omega, by rw [Nat.pow_succ], fun _ => by simpa using h1⟩
theorem PowFor.half {sz : Int} {N : Nat} (h : PowFor sz N) : N = 1 ∨ ∃ M : Nat, N = 2 * M ∧ (M : Int) < sz := by
  obtain ⟨j, hj, rfl, h2⟩ := h
  rcases Nat.eq_zero_or_pos j with rfl | h0
  · exact .inl rfl
  · refine .inr ⟨2 ^ (j - 1), ?_, h2 h0⟩
    rw [← Nat.pow_succ']; congr 1; omega

/-- The cache at block b, its places at block bp: n of them. -/
structure CacheAt (w : World) (b bp n : Nat) (hits : Int) (F : Nat → Option (CKey × Int)) : Prop where
  obj : w.heap[b]? = some (cobj bp n hits)
  free : ∀ o, w.frozen? ⟨bp, o, none⟩ = false
  row : ∀ (i j : Nat) (v : Value), i < n → (placeCells (F i))[j]? = some v → w.cell? ⟨bp, i * 6 + j, none⟩ = some v
  ne : b ≠ bp
  pos : 0 < n
  le : n ≤ 65536

def NewPost (sz : Int) (w : World) (e : Ending) (w' : World) : Prop :=
  ∃ N b bp : Nat, e = .returned (.pointer (some ⟨b, 0, none⟩)) ∧ w.heap.size ≤ b ∧ w.heap.size ≤ bp ∧ PowFor sz N ∧ (sz ≤ (N : Int) ∨ 65536 ≤ N) ∧ Below w.heap.size w w' ∧ CacheAt w' b bp N 0 (fun _ => none)

theorem newPost_of {sz : Int} {N : Nat} {w w1 : World} (hP : PowFor sz N) (hs : sz ≤ (N : Int) ∨ 65536 ≤ N)
    (hown : w1.ownsRow w.heap.size 130 6 (.slice (some ⟨w.heap.size, 0, none⟩) N N) N (madeCells (Value.agg #[.int .i64 0, .int .i64 0, .int .i64 0, .int .i64 0, .int .i64 0, .bool false]).cells (N * 6)).toList) (hg : w.grownBy w1 none) :
    NewPost sz w (.returned (.pointer (some ⟨w1.heap.size, 0, none⟩))) (w1.alloc (.cells #[.slice (some ⟨w.heap.size, 0, none⟩) N N, .int .i64 0] 90)) := by
  have hb := hP.bounds
  have h1 := block_of_made hown
  have hlt := lt_of_heap h1
  have h2 : (w1.alloc (.cells #[.slice (some ⟨w.heap.size, 0, none⟩) N N, .int .i64 0] 90)).heap[w.heap.size]? = some (.cells (madeCells (Value.agg #[.int .i64 0, .int .i64 0, .int .i64 0, .int .i64 0, .int .i64 0, .bool false]).cells (N * 6)) 130 (0, 0)) := by
    rw [Below.heap_alloc _ _ _ hlt]; exact h1
  refine ⟨N, w1.heap.size, w.heap.size, rfl, hg.size, Nat.le_refl _, hP, hs, ((Below.refl _ _).grown hg (Nat.le_refl _) (fun _ h => by cases h)).alloc hg.size _, ?_, fun o => free_of_heap h2 o, fun i j v hi hv => ?_, by omega, by omega, by omega⟩
  · show (w1.heap.push _)[w1.heap.size]? = _
    simp [cobj]
  · rw [cell_of_heap h2]
    exact madeCells_get _ N i j v hi (by simpa [placeCells, Value.cells] using hv)

theorem cplaceInfo : (Try.prog.info? 130).map (fun i => (i.zero, i.size, i.bytes)) = some (some (.agg #[.int .i64 0, .int .i64 0, .int .i64 0, .int .i64 0, .int .i64 0, .bool false]), 6, 48) := by kernel_rfl

set_option maxRecDepth 1000000 in
set_option maxHeartbeats 800000 in
theorem cacheNew_any (sz : Int) (w : World) :
    Calls Try.prog 25 #[.int .i64 sz] w (NewPost sz w) := by
  obtain ⟨i0, hi, hz0, hz1, hz2⟩ := info_parts cplaceInfo
  go_enter Try.func25, Try.ntmps25
  go_wp2
  go_loop [3] (fun v => ∃ N : Nat, v = .int .i64 N ∧ PowFor sz N) (fun v => top16 - (intOf v).toNat)
  case atStart => exact ⟨1, rfl, PowFor.one sz⟩
  case round =>
    obtain ⟨N, rfl, hP⟩ := hrel
    have HP := Lib.hid hP; clear hP
    rcases (show (sz ≤ 65536 ∧ (N : Int) < sz) ∨ (65536 < sz ∧ (N : Int) < 65536) ∨ (sz ≤ 65536 ∧ sz ≤ (N : Int)) ∨ (65536 < sz ∧ 65536 ≤ (N : Int)) from by omega) with ⟨h1, h2⟩ | ⟨h1, h2⟩ | ⟨h1, h2⟩ | ⟨h1, h2⟩
    · have h3 : 0 ≤ (N : Int) := by omega
      go_wp2
      go_round
      case rel => exact ⟨N * 2, by go_num, HP.out.twice h2 (by omega)⟩
      case measure => have := HP.out.bounds; simp [intOf, top16]; omega
    · go_wp2
      go_round
      case rel => exact ⟨N * 2, by go_num, HP.out.twice (by omega) (by omega)⟩
      case measure => have := HP.out.bounds; simp [intOf, top16]; omega
    · go_wp2_with (at_make; refine wpList_make_full _ rfl _ _ 88 rfl w.heap.size 130 i0 _ 6 Try.underlying88 hi hz0 hz1 .i64 .i64 _ _ N rfl rfl rfl rfl (by have := HP.out.bounds; rw [hz2]; omega) (by have := HP.out.bounds; unfold maxLen; omega) (Nat.le_refl _) ?_)
      intro w1 hown hgrow
      go_wp2
      go_ret
      exact newPost_of HP.out (by omega) hown hgrow
    · go_wp2_with (at_make; refine wpList_make_full _ rfl _ _ 88 rfl w.heap.size 130 i0 _ 6 Try.underlying88 hi hz0 hz1 .i64 .i64 _ _ N rfl rfl rfl rfl (by have := HP.out.bounds; rw [hz2]; omega) (by have := HP.out.bounds; unfold maxLen; omega) (Nat.le_refl _) ?_)
      intro w1 hown hgrow
      go_wp2
      go_ret
      exact newPost_of HP.out (by omega) hown hgrow
end Go.Proofs.Ytloidoekmicloaa
/-
  Contracts of layer 15 (cache), said of the object.
-/
set_option linter.unusedVariables false
set_option linter.unusedSimpArgs false
set_option linter.unnecessarySimpa false
namespace Go.Proofs.Ytloidoekmicloaa
open Go.RowKit

/-- What a place tells of what is asked. -/
def lookAt (p : Option (CKey × Int)) (key : CKey) : Option Int :=
  match p with
  | some (k, x) => if k = key then some x else none
  | none => none
def keepAt (F : Nat → Option (CKey × Int)) (s : Nat) (key : CKey) (x : Int) : Nat → Option (CKey × Int) :=
  fun i => if i = s then some (key, x) else F i
def look (n : Nat) (F : Nat → Option (CKey × Int)) (k0 k1 k2 k3 : Int) : Option Int := lookAt (F (slotOf n k0 k1 k2 k3)) (k0, k1, k2, k3)
def keep (n : Nat) (F : Nat → Option (CKey × Int)) (k0 k1 k2 k3 x : Int) : Nat → Option (CKey × Int) := keepAt F (slotOf n k0 k1 k2 k3) (k0, k1, k2, k3) x

theorem CacheAt.keeps {w w' : World} {b bp n : Nat} {hits : Int} {F : Nat → Option (CKey × Int)} (h : CacheAt w b bp n hits F) {S : Nat → Prop} (hk : Keeps S w w') (hb : ¬ S b) (hbp : ¬ S bp) : CacheAt w' b bp n hits F := by
  have l1 := lt_of_heap h.obj
  have l2 : bp < w.heap.size := by
    have hF : ∃ v, (placeCells (F 0))[0]? = some v := by
      cases F 0 with
      | none => exact ⟨_, rfl⟩
      | some p => obtain ⟨⟨a, b, c, d⟩, x⟩ := p; exact ⟨_, rfl⟩
    obtain ⟨v, hv⟩ := hF
    exact lt_of_cell (h.row 0 0 v h.pos hv)
  exact ⟨(hk.block b l1 hb).trans h.obj, fun o => (hk.frozen (p := ⟨bp, o, none⟩) l2 hbp).trans (h.free o), fun i j v hi hv => (hk.cell (p := ⟨bp, _, none⟩) l2 hbp).trans (h.row i j v hi hv), h.ne, h.pos, h.le⟩
theorem CacheAt.lt {w : World} {b bp n : Nat} {hits : Int} {F : Nat → Option (CKey × Int)} (h : CacheAt w b bp n hits F) : b < w.heap.size ∧ bp < w.heap.size := by
  refine ⟨lt_of_heap h.obj, ?_⟩
  have hF : ∃ v, (placeCells (F 0))[0]? = some v := by
    cases F 0 with
    | none => exact ⟨_, rfl⟩
    | some p => obtain ⟨⟨a, b, c, d⟩, x⟩ := p; exact ⟨_, rfl⟩
  obtain ⟨v, hv⟩ := hF
  exact lt_of_cell (h.row 0 0 v h.pos hv)
theorem CacheAt.cell0 {w : World} {b bp n : Nat} {hits : Int} {F : Nat → Option (CKey × Int)} (h : CacheAt w b bp n hits F) : w.cell? ⟨b, 0, none⟩ = some (.slice (some ⟨bp, 0, none⟩) n n) := by
  rw [cell_of_heap h.obj]; rfl
theorem CacheAt.cell1 {w : World} {b bp n : Nat} {hits : Int} {F : Nat → Option (CKey × Int)} (h : CacheAt w b bp n hits F) : w.cell? ⟨b, 1, none⟩ = some (.int .i64 hits) := by
  rw [cell_of_heap h.obj]; rfl

def GetPost (b bp n : Nat) (hits : Int) (F : Nat → Option (CKey × Int)) (r : Option Int) (w : World) (e : Ending) (w' : World) : Prop :=
  e = .returned (.tuple #[.int .i64 (r.getD 0), .bool r.isSome]) ∧ Keeps (fun k => k = b) w w' ∧ CacheAt w' b bp n (if r.isSome then hits + 1 else hits) F

theorem get_core {b bp n : Nat} {hits : Int} {F : Nat → Option (CKey × Int)} (s : Nat) (k0 k1 k2 k3 : Int) (w : World) (hi : s < n) (hat : ∀ W : World, W.cell? ⟨b, 0, none⟩ = some (.slice (some ⟨bp, 0, none⟩) n n) → Calls Try.prog 82 #[.pointer (some ⟨b, 0, none⟩), .agg #[.int .i64 k0, .int .i64 k1, .int .i64 k2, .int .i64 k3]] W fun e w' => e = .returned (.pointer (some ⟨bp, s * 6, none⟩)) ∧ Below W.heap.size W w') (h : CacheAt w b bp n hits F) (hh : 0 ≤ hits) (hh' : hits ≤ 100000000) :
    Calls Try.prog 67 #[.pointer (some ⟨b, 0, none⟩), .int .i64 k0, .int .i64 k1, .int .i64 k2, .int .i64 k3] w (GetPost b bp n hits F (lookAt (F s) (k0, k1, k2, k3)) w) := by
  obtain ⟨l1, l2⟩ := h.lt
  have R := fun j v => h.row s j v hi
  have stay : ∀ w', Below w.heap.size w w' → CacheAt w' b bp n hits F := fun w' hb => h.keeps (S := fun _ => False) (Keeps.of_below hb (Nat.le_refl _)) (fun x => x) (fun x => x)
  cases hF : F s with
  | none =>
    have hl : lookAt none (k0, k1, k2, k3) = none := rfl
    refine (cacheGet_none b bp n s hits k0 k1 k2 k3 w hat l1 l2 h.cell0 (R 5 _ (by rw [hF]; rfl))).mono fun e w' hp => ?_
    obtain ⟨rfl, hb⟩ := hp
    refine ⟨by rw [hl]; rfl, Keeps.of_below hb (Nat.le_refl _), ?_⟩
    rw [hl]; exact stay w' hb
  | some p =>
    obtain ⟨⟨a0, a1, a2, a3⟩, x⟩ := p
    by_cases hk : a0 = k0 ∧ a1 = k1 ∧ a2 = k2 ∧ a3 = k3
    · obtain ⟨rfl, rfl, rfl, rfl⟩ := hk
      have hl : lookAt (some ((a0, a1, a2, a3), x)) (a0, a1, a2, a3) = some x := by simp [lookAt]
      refine (cacheGet_hit b bp n s hits x a0 a1 a2 a3 hh hh' w hat l1 l2 h.obj (R 0 _ (by rw [hF]; rfl)) (R 1 _ (by rw [hF]; rfl)) (R 2 _ (by rw [hF]; rfl)) (R 3 _ (by rw [hF]; rfl)) (R 4 _ (by rw [hF]; rfl)) (R 5 _ (by rw [hF]; rfl))).mono fun e w' hp => ?_
      obtain ⟨rfl, hb, ho⟩ := hp
      refine ⟨by rw [hl]; rfl, hb, ?_⟩
      rw [hl]
      exact ⟨ho, fun o => (hb.frozen (p := ⟨bp, o, none⟩) l2 (fun e => h.ne e.symm)).trans (h.free o), fun i j v hi hv => (hb.cell (p := ⟨bp, _, none⟩) l2 (fun e => h.ne e.symm)).trans (h.row i j v hi hv), h.ne, h.pos, h.le⟩
    · have hl : lookAt (some ((a0, a1, a2, a3), x)) (k0, k1, k2, k3) = none := by
        simp only [lookAt]
        rw [if_neg]
        intro e; simp only [Prod.mk.injEq] at e; exact hk ⟨e.1, e.2.1, e.2.2.1, e.2.2.2⟩
      refine (cacheGet_other b bp n s hits x k0 k1 k2 k3 a0 a1 a2 a3 hk w hat l1 l2 h.cell0 (R 0 _ (by rw [hF]; rfl)) (R 1 _ (by rw [hF]; rfl)) (R 2 _ (by rw [hF]; rfl)) (R 3 _ (by rw [hF]; rfl)) (R 4 _ (by rw [hF]; rfl)) (R 5 _ (by rw [hF]; rfl))).mono fun e w' hp => ?_
      obtain ⟨rfl, hb⟩ := hp
      refine ⟨by rw [hl]; rfl, Keeps.of_below hb (Nat.le_refl _), ?_⟩
      rw [hl]; exact stay w' hb

def PutDone (b bp n : Nat) (hits : Int) (F' : Nat → Option (CKey × Int)) (w : World) (e : Ending) (w' : World) : Prop :=
  e = .returned (.tuple #[]) ∧ Keeps (fun k => k = bp) w w' ∧ CacheAt w' b bp n hits F'

theorem put_core {b bp n : Nat} {hits : Int} {F : Nat → Option (CKey × Int)} (s : Nat) (k0 k1 k2 k3 x : Int) (w : World) (hi : s < n) (hat : ∀ W : World, W.cell? ⟨b, 0, none⟩ = some (.slice (some ⟨bp, 0, none⟩) n n) → Calls Try.prog 82 #[.pointer (some ⟨b, 0, none⟩), .agg #[.int .i64 k0, .int .i64 k1, .int .i64 k2, .int .i64 k3]] W fun e w' => e = .returned (.pointer (some ⟨bp, s * 6, none⟩)) ∧ Below W.heap.size W w') (h : CacheAt w b bp n hits F) :
    Calls Try.prog 70 #[.pointer (some ⟨b, 0, none⟩), .int .i64 k0, .int .i64 k1, .int .i64 k2, .int .i64 k3, .int .i64 x] w (PutDone b bp n hits (keepAt F s (k0, k1, k2, k3) x) w) := by
  obtain ⟨l1, l2⟩ := h.lt
  have R : ∀ j, j < 6 → ∃ v, w.cell? ⟨bp, s * 6 + j, none⟩ = some v := fun j hj => by
    have : ∃ v, (placeCells (F s))[j]? = some v := by
      have hl : (placeCells (F s)).length = 6 := by
        cases F s with
        | none => rfl
        | some p => obtain ⟨⟨a, b, c, d⟩, x⟩ := p; rfl
      exact ⟨_, List.getElem?_eq_getElem (by omega)⟩
    obtain ⟨v, hv⟩ := this
    exact ⟨v, h.row _ j v hi hv⟩
  obtain ⟨y0, c0⟩ := R 0 (by omega)
  obtain ⟨y1, c1⟩ := R 1 (by omega)
  obtain ⟨y2, c2⟩ := R 2 (by omega)
  obtain ⟨y3, c3⟩ := R 3 (by omega)
  obtain ⟨y4, c4⟩ := R 4 (by omega)
  obtain ⟨y5, c5⟩ := R 5 (by omega)
  refine (cachePut_any b bp n s k0 k1 k2 k3 x w hat l1 l2 h.ne h.cell0 h.free y0 y1 y2 y3 y4 y5 c0 c1 c2 c3 c4 c5).mono fun e w' hp => ?_
  obtain ⟨rfl, hk, hf, ho, hn⟩ := hp
  refine ⟨rfl, hk, (hk.block b l1 h.ne).trans h.obj, fun o => (hf o).trans (h.free o), fun i j v hi' hv => ?_, h.ne, h.pos, h.le⟩
  by_cases e : i = s
  · subst e
    simp only [keepAt, if_pos trivial] at hv
    exact hn j v hv
  · simp only [keepAt, if_neg e] at hv
    have hj : j < 6 := by
      have hl : (placeCells (F i)).length = 6 := by
        cases F i with
        | none => rfl
        | some p => obtain ⟨⟨a, b, c, d⟩, x⟩ := p; rfl
      rcases Nat.lt_or_ge j 6 with h | h
      · exact h
      · rw [List.getElem?_eq_none (by omega)] at hv; cases hv
    rw [ho _ (by omega)]
    exact h.row i j v hi' hv

theorem get_spec {b bp n : Nat} {hits : Int} {F : Nat → Option (CKey × Int)} (k0 k1 k2 k3 : Int) (w : World) (h : CacheAt w b bp n hits F) (hh : 0 ≤ hits) (hh' : hits ≤ 100000000) :
    Calls Try.prog 67 #[.pointer (some ⟨b, 0, none⟩), .int .i64 k0, .int .i64 k1, .int .i64 k2, .int .i64 k3] w (GetPost b bp n hits F (look n F k0 k1 k2 k3) w) :=
  get_core (slotOf n k0 k1 k2 k3) k0 k1 k2 k3 w (slotOf_lt n k0 k1 k2 k3 h.pos) (fun W h0 => at_any b bp n k0 k1 k2 k3 h.pos h.le W h0) h hh hh'
theorem put_spec {b bp n : Nat} {hits : Int} {F : Nat → Option (CKey × Int)} (k0 k1 k2 k3 x : Int) (w : World) (h : CacheAt w b bp n hits F) :
    Calls Try.prog 70 #[.pointer (some ⟨b, 0, none⟩), .int .i64 k0, .int .i64 k1, .int .i64 k2, .int .i64 k3, .int .i64 x] w (PutDone b bp n hits (keep n F k0 k1 k2 k3 x) w) :=
  put_core (slotOf n k0 k1 k2 k3) k0 k1 k2 k3 x w (slotOf_lt n k0 k1 k2 k3 h.pos) (fun W h0 => at_any b bp n k0 k1 k2 k3 h.pos h.le W h0) h

theorem PowFor.eight {N : Nat} (h : PowFor 5 N) (hs : (5 : Int) ≤ (N : Int) ∨ 65536 ≤ N) : N = 8 := by
  obtain ⟨j, hj, rfl, h2⟩ := h
  have h5 : 5 ≤ 2 ^ j := by
    rcases hs with h | h
    · exact_mod_cast h
    · exact Nat.le_trans (by decide) h
  have hj3 : 3 ≤ j := by
    rcases Nat.lt_or_ge j 3 with h | h
    · have := Nat.pow_le_pow_right (n := 2) (by decide) (show j ≤ 2 from by omega); omega
    · exact h
  have h4 : 2 ^ (j - 1) < 5 := by have := h2 (by omega); exact_mod_cast this
  have hj3' : j ≤ 3 := by
    rcases Nat.lt_or_ge 3 j with h | h
    · have := Nat.pow_le_pow_right (n := 2) (by decide) (show 3 ≤ j - 1 from by omega); omega
    · exact h
  obtain rfl : j = 3 := by omega
  rfl

end Go.Proofs.Ytloidoekmicloaa
