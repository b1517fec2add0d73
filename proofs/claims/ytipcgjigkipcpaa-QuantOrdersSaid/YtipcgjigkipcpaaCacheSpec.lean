/-
  Contracts of layer 15 (cache), said of the object.
-/
import Derived.Test.YtipcgjigkipcpaaCachePut
import Derived.Lib.Hide
set_option linter.unusedVariables false
set_option linter.unusedSimpArgs false
set_option linter.unnecessarySimpa false
namespace Go.Proofs.Ytipcgjigkipcpaa
open Go.RowKit

/-- What a place tells of what is asked. -/
def lookAt (p : Option (CKey × Int)) (key : CKey) : Option Int :=
  match p with
  | some (k, x) => if k = key then some x else none
  | none => none
def keepAt (F : Nat → Option (CKey × Int)) (s : Nat) (key : CKey) (x : Int) : Nat → Option (CKey × Int) :=
  fun i => if i = s then some (key, x) else F i
def look (n : Nat) (F : Nat → Option (CKey × Int)) (k0 k1 k2 k3 : Int) : Option Int := lookAt (F (slotOf n k0 k1 k2 k3)) (k0, k1, k2, k3)
def keep (n : Nat) (F : Nat → Option (CKey × Int)) (k0 k1 k2 k3 x : Int) : Nat → Option (CKey × Int) := keepAt F (slotOf n k0 k1 k2 k3) (k0, k1, k2, k3) x

theorem CacheAt.keeps {w w' : World} {b bp n : Nat} {hits : Int} {F : Nat → Option (CKey × Int)} (h : CacheAt w b bp n hits F) {S : Nat → Prop} (hk : Keeps S w w') (hb : ¬ S b) (hbp : ¬ S bp) : CacheAt w' b bp n hits F := by
  have l1 := lt_of_heap h.obj
  have l2 : bp < w.heap.size := by
    have hF : ∃ v, (placeCells (F 0))[0]? = some v := by
      cases F 0 with
      | none => exact ⟨_, rfl⟩
      | some p => obtain ⟨⟨a, b, c, d⟩, x⟩ := p; exact ⟨_, rfl⟩
    obtain ⟨v, hv⟩ := hF
    exact lt_of_cell (h.row 0 0 v h.pos hv)
  exact ⟨(hk.block b l1 hb).trans h.obj, fun o => (hk.frozen (p := ⟨bp, o, none⟩) l2 hbp).trans (h.free o), fun i j v hi hv => (hk.cell (p := ⟨bp, _, none⟩) l2 hbp).trans (h.row i j v hi hv), h.ne, h.pos, h.le⟩
theorem CacheAt.lt {w : World} {b bp n : Nat} {hits : Int} {F : Nat → Option (CKey × Int)} (h : CacheAt w b bp n hits F) : b < w.heap.size ∧ bp < w.heap.size := by
  refine ⟨lt_of_heap h.obj, ?_⟩
  have hF : ∃ v, (placeCells (F 0))[0]? = some v := by
    cases F 0 with
    | none => exact ⟨_, rfl⟩
    | some p => obtain ⟨⟨a, b, c, d⟩, x⟩ := p; exact ⟨_, rfl⟩
  obtain ⟨v, hv⟩ := hF
  exact lt_of_cell (h.row 0 0 v h.pos hv)
theorem CacheAt.cell0 {w : World} {b bp n : Nat} {hits : Int} {F : Nat → Option (CKey × Int)} (h : CacheAt w b bp n hits F) : w.cell? ⟨b, 0, none⟩ = some (.slice (some ⟨bp, 0, none⟩) n n) := by
  rw [cell_of_heap h.obj]; rfl
theorem CacheAt.cell1 {w : World} {b bp n : Nat} {hits : Int} {F : Nat → Option (CKey × Int)} (h : CacheAt w b bp n hits F) : w.cell? ⟨b, 1, none⟩ = some (.int .i64 hits) := by
  rw [cell_of_heap h.obj]; rfl

def GetPost (b bp n : Nat) (hits : Int) (F : Nat → Option (CKey × Int)) (r : Option Int) (w : World) (e : Ending) (w' : World) : Prop :=
  e = .returned (.tuple #[.int .i64 (r.getD 0), .bool r.isSome]) ∧ Keeps (fun k => k = b) w w' ∧ CacheAt w' b bp n (if r.isSome then hits + 1 else hits) F

theorem get_core {b bp n : Nat} {hits : Int} {F : Nat → Option (CKey × Int)} (s : Nat) (k0 k1 k2 k3 : Int) (w : World) (hi : s < n) (hat : ∀ W : World, W.cell? ⟨b, 0, none⟩ = some (.slice (some ⟨bp, 0, none⟩) n n) → Calls Try.prog 105 #[.pointer (some ⟨b, 0, none⟩), .agg #[.int .i64 k0, .int .i64 k1, .int .i64 k2, .int .i64 k3]] W fun e w' => e = .returned (.pointer (some ⟨bp, s * 6, none⟩)) ∧ Below W.heap.size W w') (h : CacheAt w b bp n hits F) (hh : 0 ≤ hits) (hh' : hits ≤ 100000000) :
    Calls Try.prog 93 #[.pointer (some ⟨b, 0, none⟩), .int .i64 k0, .int .i64 k1, .int .i64 k2, .int .i64 k3] w (GetPost b bp n hits F (lookAt (F s) (k0, k1, k2, k3)) w) := by
  obtain ⟨l1, l2⟩ := h.lt
  have R := fun j v => h.row s j v hi
  have stay : ∀ w', Below w.heap.size w w' → CacheAt w' b bp n hits F := fun w' hb => h.keeps (S := fun _ => False) (Keeps.of_below hb (Nat.le_refl _)) (fun x => x) (fun x => x)
  cases hF : F s with
  | none =>
    have hl : lookAt none (k0, k1, k2, k3) = none := rfl
    refine (cacheGet_none b bp n s hits k0 k1 k2 k3 w hat l1 l2 h.cell0 (R 5 _ (by rw [hF]; rfl))).mono fun e w' hp => ?_
    obtain ⟨rfl, hb⟩ := hp
    refine ⟨by rw [hl]; rfl, Keeps.of_below hb (Nat.le_refl _), ?_⟩
    rw [hl]; exact stay w' hb
  | some p =>
    obtain ⟨⟨a0, a1, a2, a3⟩, x⟩ := p
    by_cases hk : a0 = k0 ∧ a1 = k1 ∧ a2 = k2 ∧ a3 = k3
    · obtain ⟨rfl, rfl, rfl, rfl⟩ := hk
      have hl : lookAt (some ((a0, a1, a2, a3), x)) (a0, a1, a2, a3) = some x := by simp [lookAt]
      refine (cacheGet_hit b bp n s hits x a0 a1 a2 a3 hh hh' w hat l1 l2 h.obj (R 0 _ (by rw [hF]; rfl)) (R 1 _ (by rw [hF]; rfl)) (R 2 _ (by rw [hF]; rfl)) (R 3 _ (by rw [hF]; rfl)) (R 4 _ (by rw [hF]; rfl)) (R 5 _ (by rw [hF]; rfl))).mono fun e w' hp => ?_
      obtain ⟨rfl, hb, ho⟩ := hp
      refine ⟨by rw [hl]; rfl, hb, ?_⟩
      rw [hl]
      exact ⟨ho, fun o => (hb.frozen (p := ⟨bp, o, none⟩) l2 (fun e => h.ne e.symm)).trans (h.free o), fun i j v hi hv => (hb.cell (p := ⟨bp, _, none⟩) l2 (fun e => h.ne e.symm)).trans (h.row i j v hi hv), h.ne, h.pos, h.le⟩
    · have hl : lookAt (some ((a0, a1, a2, a3), x)) (k0, k1, k2, k3) = none := by
        simp only [lookAt]
        rw [if_neg]
        intro e; simp only [Prod.mk.injEq] at e; exact hk ⟨e.1, e.2.1, e.2.2.1, e.2.2.2⟩
      refine (cacheGet_other b bp n s hits x k0 k1 k2 k3 a0 a1 a2 a3 hk w hat l1 l2 h.cell0 (R 0 _ (by rw [hF]; rfl)) (R 1 _ (by rw [hF]; rfl)) (R 2 _ (by rw [hF]; rfl)) (R 3 _ (by rw [hF]; rfl)) (R 4 _ (by rw [hF]; rfl)) (R 5 _ (by rw [hF]; rfl))).mono fun e w' hp => ?_
      obtain ⟨rfl, hb⟩ := hp
      refine ⟨by rw [hl]; rfl, Keeps.of_below hb (Nat.le_refl _), ?_⟩
      rw [hl]; exact stay w' hb

def PutDone (b bp n : Nat) (hits : Int) (F' : Nat → Option (CKey × Int)) (w : World) (e : Ending) (w' : World) : Prop :=
  e = .returned (.tuple #[]) ∧ Keeps (fun k => k = bp) w w' ∧ CacheAt w' b bp n hits F'

theorem put_core {b bp n : Nat} {hits : Int} {F : Nat → Option (CKey × Int)} (s : Nat) (k0 k1 k2 k3 x : Int) (w : World) (hi : s < n) (hat : ∀ W : World, W.cell? ⟨b, 0, none⟩ = some (.slice (some ⟨bp, 0, none⟩) n n) → Calls Try.prog 105 #[.pointer (some ⟨b, 0, none⟩), .agg #[.int .i64 k0, .int .i64 k1, .int .i64 k2, .int .i64 k3]] W fun e w' => e = .returned (.pointer (some ⟨bp, s * 6, none⟩)) ∧ Below W.heap.size W w') (h : CacheAt w b bp n hits F) :
    Calls Try.prog 96 #[.pointer (some ⟨b, 0, none⟩), .int .i64 k0, .int .i64 k1, .int .i64 k2, .int .i64 k3, .int .i64 x] w (PutDone b bp n hits (keepAt F s (k0, k1, k2, k3) x) w) := by
  obtain ⟨l1, l2⟩ := h.lt
  have R : ∀ j, j < 6 → ∃ v, w.cell? ⟨bp, s * 6 + j, none⟩ = some v := fun j hj => by
    have : ∃ v, (placeCells (F s))[j]? = some v := by
      have hl : (placeCells (F s)).length = 6 := by
        cases F s with
        | none => rfl
        | some p => obtain ⟨⟨a, b, c, d⟩, x⟩ := p; rfl
      exact ⟨_, List.getElem?_eq_getElem (by omega)⟩
    obtain ⟨v, hv⟩ := this
    exact ⟨v, h.row _ j v hi hv⟩
  obtain ⟨y0, c0⟩ := R 0 (by omega)
  obtain ⟨y1, c1⟩ := R 1 (by omega)
  obtain ⟨y2, c2⟩ := R 2 (by omega)
  obtain ⟨y3, c3⟩ := R 3 (by omega)
  obtain ⟨y4, c4⟩ := R 4 (by omega)
  obtain ⟨y5, c5⟩ := R 5 (by omega)
  refine (cachePut_any b bp n s k0 k1 k2 k3 x w hat l1 l2 h.ne h.cell0 h.free y0 y1 y2 y3 y4 y5 c0 c1 c2 c3 c4 c5).mono fun e w' hp => ?_
  obtain ⟨rfl, hk, hf, ho, hn⟩ := hp
  refine ⟨rfl, hk, (hk.block b l1 h.ne).trans h.obj, fun o => (hf o).trans (h.free o), fun i j v hi' hv => ?_, h.ne, h.pos, h.le⟩
  by_cases e : i = s
  · subst e
    simp only [keepAt, if_pos trivial] at hv
    exact hn j v hv
  · simp only [keepAt, if_neg e] at hv
    have hj : j < 6 := by
      have hl : (placeCells (F i)).length = 6 := by
        cases F i with
        | none => rfl
        | some p => obtain ⟨⟨a, b, c, d⟩, x⟩ := p; rfl
      rcases Nat.lt_or_ge j 6 with h | h
      · exact h
      · rw [List.getElem?_eq_none (by omega)] at hv; cases hv
    rw [ho _ (by omega)]
    exact h.row i j v hi' hv

theorem get_spec {b bp n : Nat} {hits : Int} {F : Nat → Option (CKey × Int)} (k0 k1 k2 k3 : Int) (w : World) (h : CacheAt w b bp n hits F) (hh : 0 ≤ hits) (hh' : hits ≤ 100000000) :
    Calls Try.prog 93 #[.pointer (some ⟨b, 0, none⟩), .int .i64 k0, .int .i64 k1, .int .i64 k2, .int .i64 k3] w (GetPost b bp n hits F (look n F k0 k1 k2 k3) w) :=
  get_core (slotOf n k0 k1 k2 k3) k0 k1 k2 k3 w (slotOf_lt n k0 k1 k2 k3 h.pos) (fun W h0 => at_any b bp n k0 k1 k2 k3 h.pos h.le W h0) h hh hh'
theorem put_spec {b bp n : Nat} {hits : Int} {F : Nat → Option (CKey × Int)} (k0 k1 k2 k3 x : Int) (w : World) (h : CacheAt w b bp n hits F) :
    Calls Try.prog 96 #[.pointer (some ⟨b, 0, none⟩), .int .i64 k0, .int .i64 k1, .int .i64 k2, .int .i64 k3, .int .i64 x] w (PutDone b bp n hits (keep n F k0 k1 k2 k3 x) w) :=
  put_core (slotOf n k0 k1 k2 k3) k0 k1 k2 k3 x w (slotOf_lt n k0 k1 k2 k3 h.pos) (fun W h0 => at_any b bp n k0 k1 k2 k3 h.pos h.le W h0) h

theorem PowFor.eight {N : Nat} (h : PowFor 5 N) (hs : (5 : Int) ≤ (N : Int) ∨ 65536 ≤ N) : N = 8 := by
  obtain ⟨j, hj, rfl, h2⟩ := h
  have h5 : 5 ≤ 2 ^ j := by
    rcases hs with h | h
    · exact_mod_cast h
    · exact Nat.le_trans (by decide) h
  have hj3 : 3 ≤ j := by
    rcases Nat.lt_or_ge j 3 with h | h
    · have := Nat.pow_le_pow_right (n := 2) (by decide) (show j ≤ 2 from by omega); omega
    · exact h
  have h4 : 2 ^ (j - 1) < 5 := by have := h2 (by omega); exact_mod_cast this
  have hj3' : j ≤ 3 := by
    rcases Nat.lt_or_ge 3 j with h | h
    · have := Nat.pow_le_pow_right (n := 2) (by decide) (show 3 ≤ j - 1 from by omega); omega
    · exact h
  obtain rfl : j = 3 := by omega
  rfl

end Go.Proofs.Ytipcgjigkipcpaa
