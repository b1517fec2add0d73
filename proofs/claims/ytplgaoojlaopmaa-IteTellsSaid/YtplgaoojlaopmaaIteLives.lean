/-
  The document's example of diagrams made of one another: as it says.
-/
import Derived.Test.YtplgaoojlaopmaaItePlayWalk
import Derived.Test.YtplgaoojlaopmaaIteNew
set_option linter.unusedVariables false
set_option linter.unusedSimpArgs false
namespace Go.Proofs.Ytplgaoojlaopmaa
open Go.ChangeShapes Go.WideShapes Go.ChangeAt Go.RowKit Go.Deep NodePlain
def lv1 : Int × St := opG st0 (makeM 2 50 st0 0 0 1)
def lv2 : Int × St := opG lv1.2 (iteT 2 50 lv1.2 2 0 1)
def lv3 : Int × St := opG lv2.2 (andT 2 50 [2, 3] (1, lv2.2))
def lv4 : Int × St := opG lv3.2 (iteT 2 50 lv3.2 2 0 1)
def lv5 : Int × St := opG lv4.2 (orT 2 50 [2, 3] (0, lv4.2))
theorem lv1_num : lv1.1 = 2 := by rfl
theorem lv2_num : lv2.1 = 3 := by rfl
theorem lv3_num : lv3.1 = 0 := by rfl
theorem lv4_num : lv4.1 = 3 := by rfl
theorem lv5_num : lv5.1 = 1 := by rfl
theorem lv5_s : lv5.2.s = false := by rfl
theorem lv5_n : lv5.2.n = 2 := by rfl
theorem lv1_wf : Good1 2 st0 0 lv1 := step_good (B := 50) (by omega) (by omega) (wf0 2) 0 (is0 _) (is0 _) (is0 _) 0
theorem lv2_wf : Good1 2 lv1.2 3 lv2 := step_good (B := 50) (by omega) (by omega) lv1_wf.wf 0 (x := 2) (by rfl) (is0 _) (is0 _) 2
theorem lv3_is : ∀ x, x ∈ ([2, 3] : List Int) → isN lv2.2.n x = true := fun x hx => by
  simp only [List.mem_cons, List.not_mem_nil, or_false] at hx
  rcases hx with rfl | rfl <;> rfl
theorem lv3_wf : Good1 2 lv2.2 6 lv3 := by
  obtain ⟨a, b, c⟩ := fold_ok (fun st x f => iteT 2 50 st f x 0) (band_step (by omega) (by omega)) [2, 3] (1, lv2.2) 6 lv2_wf.wf (is1 _) lv3_is
  exact opG_good lv2_wf.wf ⟨a.mono (by simp), b, c⟩
theorem lv4_wf : Good1 2 lv3.2 9 lv4 := step_good (B := 50) (by omega) (by omega) lv3_wf.wf 0 (x := 2) (by rfl) (is0 _) (is0 _) 2
theorem lv5_is : ∀ x, x ∈ ([2, 3] : List Int) → isN lv4.2.n x = true := fun x hx => by
  simp only [List.mem_cons, List.not_mem_nil, or_false] at hx
  rcases hx with rfl | rfl <;> rfl
theorem lv5_wf : Good1 2 lv4.2 12 lv5 := by
  obtain ⟨a, b, c⟩ := fold_ok (fun st x f => iteT 2 50 st f 1 x) (bor_step (by omega) (by omega)) [2, 3] (0, lv4.2) 12 lv4_wf.wf (is0 _) lv5_is
  exact opG_good lv4_wf.wf ⟨a.mono (by simp), b, c⟩
theorem lv6_eq : opG lv5.2 (andT 2 50 [] (1, lv5.2)) = (1, lv5.2) := by
  unfold opG
  rw [lv5_s]
  rfl
theorem lv7_eq : opG lv5.2 (orT 2 50 [] (0, lv5.2)) = (0, lv5.2) := by
  unfold opG
  rw [lv5_s]
  rfl
def LB (W : World) (db : Nat) (st : St) (c : Int) (w : World) : Prop := ∃ Fp, Bd w db 2 50 st c Fp ∧ Below W.heap.size W w ∧ ∀ x, Fp x → W.heap.size ≤ x
theorem LB.next {W w1 w2 : World} {db : Nat} {st : St} {c : Int} {Fp : Nat → Prop} (hb : Below W.heap.size W w1) (hf : ∀ x, Fp x → W.heap.size ≤ x) (h : BdTo db 2 50 st c w1 Fp w2) : LB W db st c w2 := by
  obtain ⟨Fp', h1, h2⟩ := h
  refine ⟨Fp', h1, hb.trans (h2.keeps.below hb.size (fun k hk hs => by have := hf k hs; omega)), fun x hx => ?_⟩
  rcases h2.2 x hx with h | h
  · exact hf x h
  · exact Nat.le_trans hb.size h
theorem lives_row (w : World) (a b : Int) (Fp : Nat → Prop) (hlt : ∀ x, Fp x → x < w.heap.size) : Keeps (fun _ => False) w (w.alloc (.cells #[.int .i64 a, .int .i64 b] 3)) ∧ NumRow (w.alloc (.cells #[.int .i64 a, .int .i64 b] 3)) (some ⟨w.heap.size, 0, none⟩) [a, b] ∧ ∀ b', (some ⟨w.heap.size, 0, none⟩ : Option Addr) = some ⟨b', 0, none⟩ → ¬ Fp b' := by
  have hal := (MapKept.heap_alloc w (.cells #[.int .i64 a, .int .i64 b] 3)).1
  refine ⟨(Keeps.refl _ _).alloc _, fun _ => ⟨_, rfl, lt_of_heap hal, fun i v hv => ?_⟩, fun b' e hf => ?_⟩
  · rw [cell_of_heap hal i]
    match i, hv with
    | 0, hv => simp at hv; subst hv; rfl
    | 1, hv => simp at hv; subst hv; rfl
    | i + 2, hv => simp at hv
  · simp only [Option.some.injEq, Addr.mk.injEq, and_true] at e
    have := hlt b' hf
    omega
set_option maxRecDepth 100000 in
set_option maxHeartbeats 3200000 in
theorem lives16_any (w : World) : Calls Try.prog 10 #[] w fun e w' => e = .returned (.bool true) ∧ Below w.heap.size w w' := by
  have H0 : Hid (Calls Try.prog 6 #[.int .i64 2, .int .i64 50] w fun e w' => ∃ db, e = .returned (.pointer (some ⟨db, 0, none⟩)) ∧ Hid (LB w db st0 0 w')) := by
    refine (bnew_spec w 2 50 2 50 (by omega) (by omega) rfl ⟨by omega, rfl⟩).mono ?_
    rintro e w' ⟨db, Fp, rfl, h⟩
    exact ⟨db, rfl, Lib.hid ⟨Fp, h.out.1, h.out.2.1.below (Nat.le_refl _) (fun _ _ x => x), h.out.2.2⟩⟩
  have H1 : Hid (∀ db w1, LB w db st0 0 w1 → Calls Try.prog 19 #[.pointer (some ⟨db, 0, none⟩), .int .i64 0] w1 fun e w2 => e = .returned (.int .i64 2) ∧ Hid (LB w db lv1.2 1 w2)) := fun db w1 ⟨Fp, h, hb, hf⟩ => by
    refine (blit_spec h (wf0 2) (by omega) (v := 0) (by omega) (by omega) (by omega) (by omega)).mono ?_
    rintro e w2 ⟨rfl, hx⟩
    exact ⟨rfl, Lib.hid (LB.next hb hf hx.out)⟩
  have H2 : Hid (∀ db w1, LB w db lv1.2 1 w1 → Calls Try.prog 23 #[.pointer (some ⟨db, 0, none⟩), .int .i64 2] w1 fun e w2 => e = .returned (.int .i64 3) ∧ Hid (LB w db lv2.2 2 w2)) := fun db w1 ⟨Fp, h, hb, hf⟩ => by
    refine (bnot_spec (by omega) (by omega) h lv1_wf.wf (by omega) (f := 2) (by rfl) (by omega) (by omega)).mono ?_
    rintro e w2 ⟨rfl, hx⟩
    exact ⟨rfl, Lib.hid (LB.next hb hf hx.out)⟩
  have H3 : Hid (∀ db w1, LB w db lv2.2 2 w1 → Calls Try.prog 24 #[.pointer (some ⟨db, 0, none⟩), .slice (some ⟨w1.heap.size, 0, none⟩) 2 2] (w1.alloc (.cells #[.int .i64 2, .int .i64 3] 3)) fun e w2 => e = .returned (.int .i64 0) ∧ Hid (LB w db lv3.2 4 w2)) := fun db w1 ⟨Fp, h, hb, hf⟩ => by
    obtain ⟨k, r1, r2⟩ := lives_row w1 2 3 Fp h.lt
    refine (band_spec (by omega) (by omega) (h.quiet k) lv2_wf.wf (by omega) (l := [2, 3]) lv3_is (n := 2) (cap := 2) rfl (by omega) (by omega) r1 r2 (by omega) (by omega)).mono ?_
    rintro e w2 ⟨rfl, hx⟩
    exact ⟨rfl, Lib.hid (LB.next (hb.trans (k.below hb.size (fun _ _ x => x))) hf hx.out)⟩
  have H4 : Hid (∀ db w1, LB w db lv3.2 4 w1 → Calls Try.prog 23 #[.pointer (some ⟨db, 0, none⟩), .int .i64 2] w1 fun e w2 => e = .returned (.int .i64 3) ∧ Hid (LB w db lv4.2 5 w2)) := fun db w1 ⟨Fp, h, hb, hf⟩ => by
    refine (bnot_spec (by omega) (by omega) h lv3_wf.wf (by omega) (f := 2) (by rfl) (by omega) (by omega)).mono ?_
    rintro e w2 ⟨rfl, hx⟩
    exact ⟨rfl, Lib.hid (LB.next hb hf hx.out)⟩
  have H5 : Hid (∀ db w1, LB w db lv4.2 5 w1 → Calls Try.prog 25 #[.pointer (some ⟨db, 0, none⟩), .slice (some ⟨w1.heap.size, 0, none⟩) 2 2] (w1.alloc (.cells #[.int .i64 2, .int .i64 3] 3)) fun e w2 => e = .returned (.int .i64 1) ∧ Hid (LB w db lv5.2 7 w2)) := fun db w1 ⟨Fp, h, hb, hf⟩ => by
    obtain ⟨k, r1, r2⟩ := lives_row w1 2 3 Fp h.lt
    refine (bor_spec (by omega) (by omega) (h.quiet k) lv4_wf.wf (by omega) (l := [2, 3]) lv5_is (n := 2) (cap := 2) rfl (by omega) (by omega) r1 r2 (by omega) (by omega)).mono ?_
    rintro e w2 ⟨rfl, hx⟩
    exact ⟨rfl, Lib.hid (LB.next (hb.trans (k.below hb.size (fun _ _ x => x))) hf hx.out)⟩
  have H6 : Hid (∀ db w1, LB w db lv5.2 7 w1 → Calls Try.prog 24 #[.pointer (some ⟨db, 0, none⟩), .slice none 0 0] w1 fun e w2 => e = .returned (.int .i64 1) ∧ Hid (LB w db lv5.2 7 w2)) := fun db w1 ⟨Fp, h, hb, hf⟩ => by
    have e := (band_spec (by omega) (by omega) h lv5_wf.wf (by omega) (l := []) (by simp) (so := none) (n := 0) (cap := 0) rfl (Nat.le_refl _) (by omega) (fun h => absurd h (Nat.lt_irrefl _)) (by simp) (by omega) (by omega))
    rw [lv6_eq] at e
    refine e.mono ?_
    rintro e w2 ⟨rfl, hx⟩
    exact ⟨rfl, Lib.hid (LB.next hb hf hx.out)⟩
  have H7 : Hid (∀ db w1, LB w db lv5.2 7 w1 → Calls Try.prog 25 #[.pointer (some ⟨db, 0, none⟩), .slice none 0 0] w1 fun e w2 => e = .returned (.int .i64 0) ∧ Hid (LB w db lv5.2 7 w2)) := fun db w1 ⟨Fp, h, hb, hf⟩ => by
    have e := (bor_spec (by omega) (by omega) h lv5_wf.wf (by omega) (l := []) (by simp) (so := none) (n := 0) (cap := 0) rfl (Nat.le_refl _) (by omega) (fun h => absurd h (Nat.lt_irrefl _)) (by simp) (by omega) (by omega))
    rw [lv7_eq] at e
    refine e.mono ?_
    rintro e w2 ⟨rfl, hx⟩
    exact ⟨rfl, Lib.hid (LB.next hb hf hx.out)⟩
  have H8 : Hid (∀ db w1, LB w db lv5.2 7 w1 → Calls Try.prog 8 #[.pointer (some ⟨db, 0, none⟩)] w1 fun e w2 => e = .returned (.int .i64 2) ∧ w1 = w2) := fun db w1 ⟨Fp, h, hb, hf⟩ =>
    blen_spec h (by rw [lv5_n]; omega)
  go_enter Try.func10, Try.ntmps10
  go_wp2_with fail
  refine H0.out.mono ?_
  rintro e w1 ⟨db, rfl, t1⟩
  go_wp2_with fail
  refine (H1.out _ _ t1.out).mono ?_
  rintro e w2 ⟨rfl, t2⟩
  clear t1 H1 H0
  go_wp2_with fail
  refine (H2.out _ _ t2.out).mono ?_
  rintro e w3 ⟨rfl, t3⟩
  clear t2 H2
  go_wp2_with fail
  refine (H3.out _ _ t3.out).mono ?_
  rintro e w4 ⟨rfl, t4⟩
  clear t3 H3
  go_wp2_with fail
  refine (H4.out _ _ t4.out).mono ?_
  rintro e w5 ⟨rfl, t5⟩
  clear t4 H4
  go_wp2_with fail
  refine (H5.out _ _ t5.out).mono ?_
  rintro e w6 ⟨rfl, t6⟩
  clear t5 H5
  go_wp2_with fail
  refine (H6.out _ _ t6.out).mono ?_
  rintro e w7 ⟨rfl, t7⟩
  clear t6 H6
  go_wp2_with fail
  refine (H7.out _ _ t7.out).mono ?_
  rintro e w8 ⟨rfl, t8⟩
  clear t7 H7
  go_wp2_with fail
  refine (H8.out _ _ t8.out).mono ?_
  rintro e w9 ⟨rfl, rfl⟩
  go_wp2_with fail
  go_ret
  obtain ⟨_, _, b0, _⟩ := t8.out
  exact ⟨rfl, b0⟩
end Go.Proofs.Ytplgaoojlaopmaa
