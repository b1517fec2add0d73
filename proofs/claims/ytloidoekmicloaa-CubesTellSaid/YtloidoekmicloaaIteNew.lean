/-
  A new maker of diagrams.
-/
import Derived.Test.YtloidoekmicloaaIteOps
import Derived.Test.YtloidoekmicloaaNodeLives
set_option linter.unusedVariables false
set_option linter.unusedSimpArgs false
set_option linter.unnecessarySimpa false
namespace Go.Proofs.Ytloidoekmicloaa
open Go.ChangeShapes Go.WideShapes Go.ChangeAt Go.RowKit Go.Deep NodePlain
def st0 : St := ⟨fun _ => default, 0, false, fun _ => none, 0⟩
theorem wf0 (V : Int) : Wf V st0 0 := ⟨⟨NodePlain.Good.zero _ _, fun i f g h x hx => by cases hx⟩, Nat.le_refl _, Int.le_refl _, Int.le_refl _⟩
theorem pow_4096 {N : Nat} (h : PowFor 4096 N) (hs : (4096 : Int) ≤ (N : Int) ∨ 65536 ≤ N) : N = 4096 := by
  obtain ⟨j, hj, rfl, hlt⟩ := h
  have h1 : 4096 ≤ 2 ^ j := by rcases hs with h | h <;> omega
  have h12 : 12 ≤ j := by
    rcases Nat.lt_or_ge j 12 with h | h
    · have := Nat.pow_le_pow_right (n := 2) (by omega) (show j ≤ 11 by omega)
      have e : 2 ^ 11 = 2048 := by decide
      omega
    · exact h
  rcases Nat.lt_or_ge 12 j with h | h
  · have h3 := hlt (by omega)
    have := Nat.pow_le_pow_right (n := 2) (by omega) (show 12 ≤ j - 1 by omega)
    have e : 2 ^ 12 = 4096 := by decide
    omega
  · obtain rfl : j = 12 := by omega
    decide
set_option maxRecDepth 100000
set_option maxHeartbeats 1600000
theorem bnew_spec (W : World) (vars bu V B : Int) (hV0 : 0 ≤ vars) (hV6 : vars ≤ 8) (hV : V = vars) (hB : 0 ≤ bu ∧ B = bu) :
    Calls Try.prog 7 #[.int .i64 vars, .int .i64 bu] W fun e W' => ∃ db Fp, e = .returned (.pointer (some ⟨db, 0, none⟩)) ∧ Hid (Bd W' db V B st0 0 Fp ∧ Keeps (fun _ => False) W W' ∧ ∀ x, Fp x → W.heap.size ≤ x) := by
  have HN := Lib.hid (newAll vars bu V B (by omega) (by omega) W)
  have HC : Hid (∀ W', Calls Try.prog 25 #[.int .i64 4096] W' (NewPost 4096 W')) := fun W' => cacheNew_any 4096 W'
  have HFIN : Hid (∀ w1 w2 b bp, TabAll w1 W.heap.size (W.heap.size + 1) 16 (.slice none 0 0) V B (fun _ => default) 0 (fun _ => 0) false → Below W.heap.size W w1 → w1.heap.size ≤ b → w1.heap.size ≤ bp → Below w1.heap.size w1 w2 → CacheAt w2 b bp 4096 0 (fun _ => none) → ∀ W', W' = w2.alloc (.cells #[.pointer (some ⟨W.heap.size, 0, none⟩), .pointer (some ⟨b, 0, none⟩), .int .i64 0] 58) →
      ∃ Fp, Bd W' w2.heap.size V B st0 0 Fp ∧ Keeps (fun _ => False) W W' ∧ ∀ x, Fp x → W.heap.size ≤ x) := by
    rintro w1 w2 b bp ht hb1 hb hbp hb2 hc W' rfl
    have k1 := Keeps.of_below (S := fun _ => False) hb1 (Nat.le_refl _)
    have k2 := Keeps.of_below (S := fun _ => False) hb2 (Nat.le_refl _)
    have k3 : Keeps (fun _ => False) w2 (w2.alloc (.cells #[.pointer (some ⟨W.heap.size, 0, none⟩), .pointer (some ⟨b, 0, none⟩), .int .i64 0] 58)) := (Keeps.refl _ _).alloc _
    have hlt := hc.lt
    have htl := ht.mem.lt
    have hs1 := k1.size
    have hs2 := k2.size
    refine ⟨bdFp w2.heap.size W.heap.size (W.heap.size + 1) (.slice none 0 0) b bp, ⟨W.heap.size, W.heap.size + 1, 16, .slice none 0 0, b, bp, fun _ => 0, ⟨(MapKept.heap_alloc _ _).1, ht.keeps (k2.trans k3) (fun _ _ x => x), hc.keeps k3 (fun x => x) (fun x => x), fun x hx => ?_, by omega, by omega⟩, rfl⟩, (k1.trans k2).trans k3, ?_⟩
    · have := htl x hx
      exact ⟨by omega, by omega, by omega⟩
    · rintro x (rfl | hx | rfl | rfl)
      · omega
      · rcases hx with rfl | rfl | hx
        · exact Nat.le_refl _
        · omega
        · cases hx
      · omega
      · omega
  go_enter Try.func7, Try.ntmps7
  go_wp2_with fail
  refine HN.out.mono ?_
  rintro e w1 ⟨rfl, ht, hb1⟩
  go_wp2_with fail
  refine (HC.out w1).mono ?_
  rintro e w2 ⟨N, b, bp, rfl, hb, hbp, hP, hs, hb2, hc⟩
  obtain rfl := pow_4096 hP hs
  have HX := Lib.hid (HFIN.out w1 w2 b bp ht hb1 hb hbp hb2 hc)
  clear ht hb1 hb hbp hP hs hb2 hc HN HC HFIN
  go_wp2_with fail
  go_ret
  obtain ⟨Fp, h⟩ := HX.out _ rfl
  exact ⟨_, Fp, rfl, h⟩
theorem many_any (W : World) (x : Int) (hx0 : 0 ≤ x) (hx : x < 18446744073709551616) (r : Int) (hr : x % 7 = r) : Calls Try.prog 6 #[.int .u64 x] W fun e W' => e = .returned (.int .i64 r) ∧ W = W' := by
  have h2 : IntKind.i64.wrap r = r := IntWalk.i64_in _ (by omega)
  have h3 : x.tmod 7 = r := by rw [Int.tmod_eq_emod_of_nonneg hx0]; exact hr
  go_enter Try.func6, Try.ntmps6
  go_wp2
  go_ret
  exact ⟨rfl, rfl⟩
theorem many_spec (W : World) (x : Nat) (hx : x < 18446744073709551616) : Calls Try.prog 6 #[.int .u64 x] W fun e W' => e = .returned (.int .i64 ((x % 7 : Nat) : Int)) ∧ W = W' :=
  many_any W x (by omega) (by omega) _ (by omega)
end Go.Proofs.Ytloidoekmicloaa
