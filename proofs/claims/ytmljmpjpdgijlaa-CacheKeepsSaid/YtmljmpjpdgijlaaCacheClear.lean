/-
  Clear; the calls on a cache that there isn't.
-/
import Derived.Test.YtmljmpjpdgijlaaCacheSpec
namespace Go.Proofs.Ytmljmpjpdgijlaa
open Go.RowKit

theorem placeCells_len (p : Option (CKey × Int)) : (placeCells p).length = 6 := by
  cases p with
  | none => rfl
  | some q => obtain ⟨⟨a, b, c, d⟩, x⟩ := q; rfl
theorem zeroPlace (w : World) : (zeroValue 94).run Try.prog w = .ok (.agg #[.int .i64 0, .int .i64 0, .int .i64 0, .int .i64 0, .int .i64 0, .bool false]) w := by kernel_rfl

def ClearDone (b bp n : Nat) (hits : Int) (w : World) (e : Ending) (w' : World) : Prop :=
  e = .returned (.tuple #[]) ∧ Keeps (fun k => k = bp) w w' ∧ CacheAt w' b bp n hits (fun _ => none)

def zeroRow (n : Nat) : List Value := (madeCells #[.int .i64 0, .int .i64 0, .int .i64 0, .int .i64 0, .int .i64 0, .bool false] (n * 6)).toList
theorem zeroRow_len (n : Nat) : (zeroRow n).length = n * 6 := by simp [zeroRow, size_madeCells]
theorem zeroRow_one (n : Nat) : ∀ v ∈ zeroRow n, v.oneCell' = true := by
  intro v hv
  obtain ⟨j, hj, rfl⟩ := List.mem_iff_getElem.1 hv
  simp only [zeroRow, madeCells, Array.getElem_toList, Array.getElem_map, Array.getElem_range]
  have h6 : j % 6 < 6 := Nat.mod_lt _ (by decide)
  show (#[Value.int .i64 0, .int .i64 0, .int .i64 0, .int .i64 0, .int .i64 0, .bool false][j % 6]!).oneCell' = true
  match j % 6, h6 with
  | 0, _ => rfl
  | 1, _ => rfl
  | 2, _ => rfl
  | 3, _ => rfl
  | 4, _ => rfl
  | 5, _ => rfl

set_option maxRecDepth 10000 in
set_option maxHeartbeats 800000 in
theorem clear_spec {b bp n : Nat} {hits : Int} {F : Nat → Option (CKey × Int)} (w : World) (h : CacheAt w b bp n hits F) :
    Calls Try.prog 20 #[.pointer (some ⟨b, 0, none⟩)] w (ClearDone b bp n hits w) := by
  obtain ⟨l1, l2⟩ := h.lt
  have hall : ∀ j, j < n * 6 → (w.cell? ⟨bp, 0 + j, none⟩).isSome = true := fun j hj => by
    have hv : (placeCells (F (j / 6)))[j % 6]? = some ((placeCells (F (j / 6)))[j % 6]'(by rw [placeCells_len]; omega)) := List.getElem?_eq_getElem _
    have := h.row (j / 6) (j % 6) _ (by omega) hv
    rw [show j / 6 * 6 + j % 6 = 0 + j by omega] at this
    rw [this]; rfl
  have hcl : ∀ ty, (Builtin.clear_ #[88] ty #[.slice (some ⟨bp, 0, none⟩) n n]).run Try.prog w = .ok (.tuple #[]) (w.setCells bp 0 (zeroRow n)) :=
    fun ty => run_clear_any w _ _ ty _ (zeroRow n) Try.underlying88 zeroPlace bp 0 n n h.pos rfl (zeroRow_one n) (by rw [zeroRow_len]; exact hall) (fun _ _ => h.free _)
  have h0 := h.cell0
  have H := Lib.hid h
  have HA := Lib.hid hall
  clear hall h
  go_enter Try.func20, Try.ntmps20
  go_wp2_with (simp only [hcl])
  go_end0
  have h := H.out
  have hk : Keeps (fun k => k = bp) w (w.setCells bp 0 (zeroRow n)) := Keeps.setCells (S := fun k => k = bp) bp (fun _ => rfl) _ _ _ (Keeps.refl _ _)
  refine ⟨rfl, hk, (hk.block b l1 h.ne).trans h.obj, fun o => by rw [frozen_setCells]; exact h.free o, fun i j v hi hv => ?_, h.ne, h.pos, h.le⟩
  have hj : j < 6 := by
    rcases Nat.lt_or_ge j 6 with h | h
    · exact h
    · rw [List.getElem?_eq_none (by rw [placeCells_len]; exact h)] at hv; cases hv
  have := World.cell?_setCells_in bp (zeroRow n) 0 w (by rw [zeroRow_len]; exact HA.out) (i * 6 + j) (by rw [zeroRow_len]; omega)
  rw [Nat.zero_add] at this
  rw [this, ← List.getElem?_eq_getElem]
  have := madeCells_get #[.int .i64 0, .int .i64 0, .int .i64 0, .int .i64 0, .int .i64 0, .bool false] n i j v hi (by simpa [placeCells] using hv)
  simpa [zeroRow] using this

set_option maxRecDepth 10000 in
set_option maxHeartbeats 800000 in
theorem clear_nil (w : World) : Calls Try.prog 20 #[.pointer none] w fun e w' => e = .returned (.tuple #[]) ∧ w = w' := by
  go_enter Try.func20, Try.ntmps20
  go_wp2
  go_end0
  exact ⟨rfl, rfl⟩
set_option maxRecDepth 10000 in
set_option maxHeartbeats 800000 in
theorem put_nil (a b c d x : Int) (w : World) : Calls Try.prog 16 #[.pointer none, .int .i64 a, .int .i64 b, .int .i64 c, .int .i64 d, .int .i64 x] w fun e w' => e = .returned (.tuple #[]) ∧ w = w' := by
  go_enter Try.func16, Try.ntmps16
  go_wp2
  go_end0
  exact ⟨rfl, rfl⟩
set_option maxRecDepth 10000 in
set_option maxHeartbeats 800000 in
theorem get_nil (a b c d : Int) (w : World) : Calls Try.prog 17 #[.pointer none, .int .i64 a, .int .i64 b, .int .i64 c, .int .i64 d] w fun e w' => e = .returned (.tuple #[.int .i64 0, .bool false]) ∧ Below w.heap.size w w' := by
  go_enter Try.func17, Try.ntmps17
  go_wp2
  go_ret2
  exact ⟨rfl, (Below.refl _ _).alloc (Nat.le_refl _) _⟩
set_option maxRecDepth 10000 in
theorem hits_nil (w : World) : Calls Try.prog 21 #[.pointer none] w fun e w' => e = .returned (.int .i64 0) ∧ w = w' := by
  go_enter Try.func21, Try.ntmps21
  go_wp2
  go_ret
  exact ⟨rfl, rfl⟩
set_option maxRecDepth 10000 in
theorem size_nil (w : World) : Calls Try.prog 15 #[.pointer none] w fun e w' => e = .returned (.int .i64 0) ∧ w = w' := by
  go_enter Try.func15, Try.ntmps15
  go_wp2
  go_ret
  exact ⟨rfl, rfl⟩
end Go.Proofs.Ytmljmpjpdgijlaa
