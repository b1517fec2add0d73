/-
  Walks through layer 15 (cache): Put, New, Clear, Hits, Size.
-/
import Derived.Test.YtipcgjigkipcpaaCache
import Derived.Lib.Hide
set_option linter.unusedVariables false
set_option linter.unusedSimpArgs false
set_option linter.unnecessarySimpa false
namespace Go.Proofs.Ytipcgjigkipcpaa
open Go.RowKit

def PutPost (bp i : Nat) (k0 k1 k2 k3 x : Int) (w : World) (e : Ending) (w' : World) : Prop :=
  e = .returned (.tuple #[]) ∧ Keeps (fun k => k = bp) w w' ∧ (∀ o, w'.frozen? ⟨bp, o, none⟩ = w.frozen? ⟨bp, o, none⟩) ∧
    (∀ o, o < i * 6 ∨ i * 6 + 6 ≤ o → w'.cell? ⟨bp, o, none⟩ = w.cell? ⟨bp, o, none⟩) ∧
    (∀ (j : Nat) (v : Value), (placeCells (some ((k0, k1, k2, k3), x)))[j]? = some v → w'.cell? ⟨bp, i * 6 + j, none⟩ = some v)

set_option maxRecDepth 10000 in
set_option maxHeartbeats 800000 in
theorem cachePut_any (b bp n i : Nat) (k0 k1 k2 k3 x : Int) (w : World)
    (hat : ∀ W : World, W.cell? ⟨b, 0, none⟩ = some (.slice (some ⟨bp, 0, none⟩) n n) → Calls Try.prog 105 #[.pointer (some ⟨b, 0, none⟩), .agg #[.int .i64 k0, .int .i64 k1, .int .i64 k2, .int .i64 k3]] W fun e w' => e = .returned (.pointer (some ⟨bp, i * 6, none⟩)) ∧ Below W.heap.size W w')
    (hbw : b < w.heap.size) (hpw : bp < w.heap.size) (hne : ¬ b = bp) (h0 : w.cell? ⟨b, 0, none⟩ = some (.slice (some ⟨bp, 0, none⟩) n n))
    (f0 : ∀ o, w.frozen? ⟨bp, o, none⟩ = false) (y0 y1 y2 y3 y4 y5 : Value) (c0 : w.cell? ⟨bp, i * 6, none⟩ = some y0) (c1 : w.cell? ⟨bp, i * 6 + 1, none⟩ = some y1) (c2 : w.cell? ⟨bp, i * 6 + 2, none⟩ = some y2) (c3 : w.cell? ⟨bp, i * 6 + 3, none⟩ = some y3) (c4 : w.cell? ⟨bp, i * 6 + 4, none⟩ = some y4) (c5 : w.cell? ⟨bp, i * 6 + 5, none⟩ = some y5) :
    Calls Try.prog 96 #[.pointer (some ⟨b, 0, none⟩), .int .i64 k0, .int .i64 k1, .int .i64 k2, .int .i64 k3, .int .i64 x] w (PutPost bp i k0 k1 k2 k3 x w) := by
  have hne2 : ¬ w.heap.size = bp := by omega
  go_enter Try.func96, Try.ntmps96
  go_wp2
  go_region_held3 (fun w' => w'.cell? ⟨b, 0, none⟩ = some (.slice (some ⟨bp, 0, none⟩) n n) ∧ w'.cell? ⟨w.heap.size, 0, none⟩ = some (.int .i64 k0) ∧ w'.cell? ⟨w.heap.size, 1, none⟩ = some (.int .i64 k1) ∧ w'.cell? ⟨w.heap.size, 2, none⟩ = some (.int .i64 k2) ∧ w'.cell? ⟨w.heap.size, 3, none⟩ = some (.int .i64 k3)) (simp [go_sem, World.cell?_alloc_past, *]) ((first | (go_at_call 105; refine (hat _ ?_).mono ?_; (focus (simp [go_sem, World.cell?_alloc_past, *]; done)); rintro e w' ⟨rfl, hb⟩; have hc := (bcell hb).1; have hf := (bcell hb).2)))
  go_wp2
  go_end0
  have hz : w.heap.size < (w.alloc (.cells #[.int .i64 k0, .int .i64 k1, .int .i64 k2, .int .i64 k3] 143)).drew.heap.size := by simp
  have e1 : ∀ o, w'.cell? ⟨bp, o, none⟩ = w.cell? ⟨bp, o, none⟩ := fun o => by
    rw [hc bp o (by omega)]; simp [go_sem, World.cell?_alloc_past, hpw]
  have e2 : ∀ o, w'.frozen? ⟨bp, o, none⟩ = w.frozen? ⟨bp, o, none⟩ := fun o => by
    rw [hf bp o (by omega)]; exact World.frozen?_alloc_old _ _ _ (by simp; omega)
  have e3 : ∀ j, j < 6 → (w'.cell? ⟨bp, i * 6 + j, none⟩).isSome = true := fun j hj => by
    rw [e1]
    match j, hj with
    | 0, _ => simp [c0]
    | 1, _ => simp [c1]
    | 2, _ => simp [c2]
    | 3, _ => simp [c3]
    | 4, _ => simp [c4]
    | 5, _ => simp [c5]
  show PutPost bp i k0 k1 k2 k3 x w (.returned (.tuple #[])) (w'.setCells bp (i * 6) [.int .i64 k0, .int .i64 k1, .int .i64 k2, .int .i64 k3, .int .i64 x, .bool true])
  refine ⟨rfl, ?_, fun o => by rw [frozen_setCells, e2], fun o ho => ?_, fun j v hj => ?_⟩
  · exact Keeps.setCells (S := fun k => k = bp) bp (fun _ => rfl) _ _ _ (((Keeps.refl _ _).alloc _).drew.trans (Keeps.of_below hb (Nat.le_refl _)))
  · rw [World.cell?_setCells_out _ _ _ _ _ (fun _ _ => by simpa using ho), e1]
  · have hj' : j < 6 := by
      rcases Nat.lt_or_ge j 6 with h | h
      · exact h
      · rw [List.getElem?_eq_none (by simpa [placeCells] using h)] at hj; cases hj
    rw [World.cell?_setCells_in _ _ _ _ (by simpa using e3) j (by simpa using hj')]
    rw [← hj]
    simp only [placeCells]
    rw [List.getElem?_eq_getElem (by simpa using hj')]
/-- A power of two up to 65536, whose half is below what is asked for. -/
def PowFor (sz : Int) (N : Nat) : Prop := ∃ j : Nat, j ≤ 16 ∧ 2 ^ j = N ∧ (0 < j → ((2 ^ (j - 1) : Nat) : Int) < sz)
def top16 : Nat := 65536
theorem PowFor.one (sz : Int) : PowFor sz 1 := ⟨0, by omega, rfl, by omega⟩
theorem PowFor.bounds {sz : Int} {N : Nat} (h : PowFor sz N) : 1 ≤ N ∧ N ≤ 65536 := by
  obtain ⟨j, hj, rfl, _⟩ := h
  exact ⟨Nat.one_le_two_pow, Nat.pow_le_pow_right (n := 2) (by decide) hj⟩
theorem PowFor.twice {sz : Int} {N : Nat} (h : PowFor sz N) (h1 : (N : Int) < sz) (h2 : N < 65536) : PowFor sz (N * 2) := by
  obtain ⟨j, hj, rfl, _⟩ := h
  have : j < 16 := by
    rcases Nat.lt_or_ge j 16 with h | h
    · exact h
    · have := Nat.pow_le_pow_right (n := 2) (by decide) h; omega
  exact ⟨j + 1, by omega, by rw [Nat.pow_succ], fun _ => by simpa using h1⟩
theorem PowFor.half {sz : Int} {N : Nat} (h : PowFor sz N) : N = 1 ∨ ∃ M : Nat, N = 2 * M ∧ (M : Int) < sz := by
  obtain ⟨j, hj, rfl, h2⟩ := h
  rcases Nat.eq_zero_or_pos j with rfl | h0
  · exact .inl rfl
  · refine .inr ⟨2 ^ (j - 1), ?_, h2 h0⟩
    rw [← Nat.pow_succ']; congr 1; omega

/-- The cache at block b, its places at block bp: n of them. -/
structure CacheAt (w : World) (b bp n : Nat) (hits : Int) (F : Nat → Option (CKey × Int)) : Prop where
  obj : w.heap[b]? = some (cobj bp n hits)
  free : ∀ o, w.frozen? ⟨bp, o, none⟩ = false
  row : ∀ (i j : Nat) (v : Value), i < n → (placeCells (F i))[j]? = some v → w.cell? ⟨bp, i * 6 + j, none⟩ = some v
  ne : b ≠ bp
  pos : 0 < n
  le : n ≤ 65536

def NewPost (sz : Int) (w : World) (e : Ending) (w' : World) : Prop :=
  ∃ N b bp : Nat, e = .returned (.pointer (some ⟨b, 0, none⟩)) ∧ w.heap.size ≤ b ∧ w.heap.size ≤ bp ∧ PowFor sz N ∧ (sz ≤ (N : Int) ∨ 65536 ≤ N) ∧ Below w.heap.size w w' ∧ CacheAt w' b bp N 0 (fun _ => none)

theorem newPost_of {sz : Int} {N : Nat} {w w1 : World} (hP : PowFor sz N) (hs : sz ≤ (N : Int) ∨ 65536 ≤ N)
    (hown : w1.ownsRow w.heap.size 147 6 (.slice (some ⟨w.heap.size, 0, none⟩) N N) N (madeCells (Value.agg #[.int .i64 0, .int .i64 0, .int .i64 0, .int .i64 0, .int .i64 0, .bool false]).cells (N * 6)).toList) (hg : w.grownBy w1 none) :
    NewPost sz w (.returned (.pointer (some ⟨w1.heap.size, 0, none⟩))) (w1.alloc (.cells #[.slice (some ⟨w.heap.size, 0, none⟩) N N, .int .i64 0] 125)) := by
  have hb := hP.bounds
  have h1 := block_of_made hown
  have hlt := lt_of_heap h1
  have h2 : (w1.alloc (.cells #[.slice (some ⟨w.heap.size, 0, none⟩) N N, .int .i64 0] 125)).heap[w.heap.size]? = some (.cells (madeCells (Value.agg #[.int .i64 0, .int .i64 0, .int .i64 0, .int .i64 0, .int .i64 0, .bool false]).cells (N * 6)) 147 (0, 0)) := by
    rw [Below.heap_alloc _ _ _ hlt]; exact h1
  refine ⟨N, w1.heap.size, w.heap.size, rfl, hg.size, Nat.le_refl _, hP, hs, ((Below.refl _ _).grown hg (Nat.le_refl _) (fun _ h => by cases h)).alloc hg.size _, ?_, fun o => free_of_heap h2 o, fun i j v hi hv => ?_, by omega, by omega, by omega⟩
  · show (w1.heap.push _)[w1.heap.size]? = _
    simp [cobj]
  · rw [cell_of_heap h2]
    exact madeCells_get _ N i j v hi (by simpa [placeCells, Value.cells] using hv)

theorem cplaceInfo : (Try.prog.info? 147).map (fun i => (i.zero, i.size, i.bytes)) = some (some (.agg #[.int .i64 0, .int .i64 0, .int .i64 0, .int .i64 0, .int .i64 0, .bool false]), 6, 48) := by kernel_rfl

set_option maxRecDepth 1000000 in
set_option maxHeartbeats 800000 in
theorem cacheNew_any (sz : Int) (w : World) :
    Calls Try.prog 53 #[.int .i64 sz] w (NewPost sz w) := by
  obtain ⟨i0, hi, hz0, hz1, hz2⟩ := info_parts cplaceInfo
  go_enter Try.func53, Try.ntmps53
  go_wp2
  go_loop [3] (fun v => ∃ N : Nat, v = .int .i64 N ∧ PowFor sz N) (fun v => top16 - (intOf v).toNat)
  case atStart => exact ⟨1, rfl, PowFor.one sz⟩
  case round =>
    obtain ⟨N, rfl, hP⟩ := hrel
    have HP := Lib.hid hP; clear hP
    rcases (show (sz ≤ 65536 ∧ (N : Int) < sz) ∨ (65536 < sz ∧ (N : Int) < 65536) ∨ (sz ≤ 65536 ∧ sz ≤ (N : Int)) ∨ (65536 < sz ∧ 65536 ≤ (N : Int)) from by omega) with ⟨h1, h2⟩ | ⟨h1, h2⟩ | ⟨h1, h2⟩ | ⟨h1, h2⟩
    · have h3 : 0 ≤ (N : Int) := by omega
      go_wp2
      go_round
      case rel => exact ⟨N * 2, by go_num, HP.out.twice h2 (by omega)⟩
      case measure => have := HP.out.bounds; simp [intOf, top16]; omega
    · go_wp2
      go_round
      case rel => exact ⟨N * 2, by go_num, HP.out.twice (by omega) (by omega)⟩
      case measure => have := HP.out.bounds; simp [intOf, top16]; omega
    · go_wp2_with (at_make; refine wpList_make_full _ rfl _ _ 123 rfl w.heap.size 147 i0 _ 6 Try.underlying123 hi hz0 hz1 .i64 .i64 _ _ N rfl rfl rfl rfl (by have := HP.out.bounds; rw [hz2]; omega) (by have := HP.out.bounds; unfold maxLen; omega) (Nat.le_refl _) ?_)
      intro w1 hown hgrow
      go_wp2
      go_ret
      exact newPost_of HP.out (by omega) hown hgrow
    · go_wp2_with (at_make; refine wpList_make_full _ rfl _ _ 123 rfl w.heap.size 147 i0 _ 6 Try.underlying123 hi hz0 hz1 .i64 .i64 _ _ N rfl rfl rfl rfl (by have := HP.out.bounds; rw [hz2]; omega) (by have := HP.out.bounds; unfold maxLen; omega) (Nat.le_refl _) ?_)
      intro w1 hown hgrow
      go_wp2
      go_ret
      exact newPost_of HP.out (by omega) hown hgrow
end Go.Proofs.Ytipcgjigkipcpaa
