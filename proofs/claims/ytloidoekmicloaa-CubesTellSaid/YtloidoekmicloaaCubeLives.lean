/-
  The document's example of covers is as it says.
-/
import Derived.Test.YtloidoekmicloaaCubeCover
import Derived.Test.YtloidoekmicloaaMX
import Derived.Test.YtloidoekmicloaaCubeIs
import Derived.Test.YtloidoekmicloaaIteNew
set_option linter.unusedVariables false
set_option linter.unusedSimpArgs false
set_option linter.unnecessarySimpa false
namespace Go.Proofs.Ytloidoekmicloaa
open Go.ChangeShapes Go.WideShapes Go.ChangeAt Go.RowKit Go.Deep NodePlain
theorem CubesAt.reads {z : Nat} {W : World} {k : Nat} {v : Value} {L : List (List Int)} {bs : List Nat} (h : CubesAt z W k v L bs) : ReadsII W v L := by
  obtain ⟨ao, cap, e, h1, _, h2⟩ := h.form
  refine ⟨ao, cap, e, h1, fun h0 => ?_⟩
  obtain ⟨g, e2, _, hg, _, hc⟩ := h2 h0
  refine ⟨g, 0, e2, hg, fun j c hj => ?_⟩
  obtain ⟨b, hb⟩ : ∃ b, bs[j]? = some b := ⟨_, List.getElem?_eq_getElem (by rw [h.len]; exact (List.getElem?_eq_some_iff.1 hj).1)⟩
  exact ⟨_, by rw [Nat.zero_add]; exact hc j b hb, (h.blk j b c hb hj).reads (h.ck c (List.mem_of_getElem? hj))⟩
theorem or_bt : ∃ f n c, Bt 2 (fun β => β 0 || β 1) (fun β => β 0 || β 1) [[1, -1], [-1, 1]] f n c ∧ n ≤ 48 ∧ c ≤ 24 := by
  obtain ⟨S, hS⟩ : ∃ S : (Nat → Bool) → Bool, S = fun β => β 0 || β 1 := ⟨_, rfl⟩
  have h0 : ∀ β, half S 0 false β = β 1 := fun β => by subst hS; simp [half, putB]
  have h1 : ∀ β, half S 0 true β = true := fun β => by subst hS; simp [half, putB]
  rw [← hS]
  have hd1 : ∀ β : Nat → Bool, isB β 0 [-1, 1] = β 1 := fun β => by
    simp only [isB]
    cases β 1 <;> simp
  obtain ⟨f, n, cc, h3, h4, h5⟩ := cube_bt 2 1 [-1, 1] ⟨rfl, by decide⟩ (fun w hw => by
    obtain rfl : w = 0 := by omega
    rfl)
  have e3 : (fun β : Nat → Bool => isB β 0 [-1, 1]) = fun β => β 1 := funext hd1
  rw [e3] at h3
  have ba : Bt 2 (fun β => !half S 0 true β && half S 0 false β) (half S 0 false) [] (fun _ => false) 0 0 := Bt.zero _ _ fun β => by rw [h1]; rfl
  have bb : Bt 2 (fun β => !half S 0 false β && half S 0 true β) (half S 0 true) [List.replicate 2 (-1)] (fun _ => true) 0 0 := Bt.one _ _ (fun _ => false) (by rw [h0, h1]; rfl) h1
  have bc : Bt 2 (fun β => (!(fun _ : Nat → Bool => false) β && half S 0 false β) || (!(fun _ : Nat → Bool => true) β && half S 0 true β)) (fun β => half S 0 false β && half S 0 true β) [[-1, 1]] f n cc := by
    have e1 : (fun β => (!(fun _ : Nat → Bool => false) β && half S 0 false β) || (!(fun _ : Nat → Bool => true) β && half S 0 true β)) = fun β : Nat → Bool => β 1 := by
      funext β; simp [h0]
    have e2 : (fun β => half S 0 false β && half S 0 true β) = fun β : Nat → Bool => β 1 := by
      funext β; simp [h0, h1]
    rw [e1, e2]
    exact h3
  have hdep : ¬ (Ind S 0 ∧ Ind S 0) := fun hi => by
    have := hi.1 (fun _ => false) true
    rw [hS] at this
    simp [putB] at this
  have hstep := Bt.step (k := 2) S S 0 (by decide) (fun _ => true) (by rw [hS]; rfl) (fun _ => false) (by rw [hS]; rfl) (fun w hw => absurd hw (Nat.not_lt_zero _)) hdep [] _ _ _ _ f _ _ n _ _ cc ba bb bc
  refine ⟨_, _, _, hstep, ?_, ?_⟩
  · have h4' : n ≤ 16 := h4
    show 0 + 0 + n + 8 * 2 ^ (2 - 0) ≤ 48
    omega
  · have h5' : cc ≤ 12 := h5
    show 0 + 0 + cc + 12 ≤ 24
    omega
set_option maxRecDepth 100000 in
set_option maxHeartbeats 3200000 in
theorem lives38_any (w : World) : Calls Try.prog 15 #[] w fun e w' => e = .returned (.bool true) ∧ Below w.heap.size w w' := by
  have HN : Hid (Calls Try.prog 7 #[.int .i64 2, .int .i64 100] w fun e W' => ∃ db Fp, e = .returned (.pointer (some ⟨db, 0, none⟩)) ∧ Hid (Bd W' db 2 100 st0 0 Fp ∧ Keeps (fun _ => False) w W' ∧ ∀ x, Fp x → w.heap.size ≤ x)) := bnew_spec w 2 100 2 100 (by omega) (by omega) rfl ⟨by omega, rfl⟩
  have f0 : Fine ((2 : Nat) : Int) 100 0 st0 := ⟨wf0 2, by show ((0 : Nat) : Int) ≤ 100; omega, fun e => by cases e⟩
  have n0 : st0.n = 0 := rfl
  have HLIT0 : Hid (∀ w1 db Fp, (Bd w1 db ((2 : Nat) : Int) 100 st0 0 Fp ∧ Keeps (fun _ => False) w w1 ∧ ∀ x, Fp x → w.heap.size ≤ x) → Calls Try.prog 27 #[.pointer (some ⟨db, 0, none⟩), .int .i64 0] w1 (OpTo w.heap.size w1 2 db 100 st0 0 Fp 1 1 2 (fun β => β 0))) := fun w1 db Fp h => by
    have hD : Dg w.heap.size w1 2 db 100 st0 0 0 Fp := ⟨h.1, f0, by omega, by omega, h.2.2⟩
    exact hD.lit h.2.1.size (by omega) (by omega) (by omega) (v := 0) (by omega)
  have HLIT1 : Hid (∀ w1 w2 db Fp st kc calls F f, DgTo w.heap.size w1 2 db 100 st0 0 Fp 1 1 st kc calls F w2 ∧ w.heap.size ≤ w1.heap.size ∧ Num st f (fun β => β 0) → Calls Try.prog 27 #[.pointer (some ⟨db, 0, none⟩), .int .i64 1] w2 (OpTo w.heap.size w2 2 db 100 st kc F 1 1 1 (fun β => β 1))) := fun w1 w2 db Fp st kc calls F f h => by
    have h1 := h.1.hn
    have h2 := h.1.hc
    have h3 := h.1.mv.keeps.size
    exact h.1.dg.lit (by omega) (by omega) (by omega) (by omega) (v := 1) (by omega)
  have hd2 : (2 : Int) = ((2 : Nat) : Int) := rfl
  have HREST : Hid (∀ w1 w3 db Fp st kc calls F f g, DgTo w.heap.size w1 2 db 100 st0 0 Fp 2 2 st kc calls F w3 ∧ w.heap.size ≤ w1.heap.size ∧ Num st f (fun β => β 0) ∧ Late 2 st 2 f ∧ Num st g (fun β => β 1) ∧ Late 2 st 1 g → Calls Try.prog 33 #[.pointer (some ⟨db, 0, none⟩), .slice (some ⟨w3.heap.size, 0, none⟩) 2 2] (w3.alloc (.cells #[.int .i64 f, .int .i64 g] 3)) (OpTo w.heap.size w3 2 db 100 st kc F 8 2 2 (fun β => β 0 || β 1))) := fun w1 w3 db Fp st kc calls F f g h => by
    have h1 := h.1.hn
    have h2 := h.1.hc
    have h3 := h.1.mv.keeps.size
    exact h.1.dg.or2 (by omega) (by omega) (by omega) (by simp only [n0] at h1; show ((st.n + 2 * 2 ^ 2 : Nat) : Int) < 100; omega) h.2.2.1 h.2.2.2.2.1 (m := 2) (by omega) h.2.2.2.1 (h.2.2.2.2.2.mono (by omega))
  obtain ⟨gg, n, c, hbt, hn48, hc24⟩ := or_bt
  have HCOV : Hid (∀ w1 w4 db Fp st kc calls F f, DgTo w.heap.size w1 2 db 100 st0 0 Fp 10 4 st kc calls F w4 ∧ w.heap.size ≤ w1.heap.size ∧ Num st f (fun β => β 0 || β 1) → Calls Try.prog 9 #[.pointer (some ⟨db, 0, none⟩), .int .i64 f] w4 (CovTo w.heap.size w4 2 db 100 st kc F n c [[1, -1], [-1, 1]])) := fun w1 w4 db Fp st kc calls F f h => by
    have h1 := h.1.hn
    have h2 := h.1.hc
    have h3 := h.1.mv.keeps.size
    exact ccover_spec hbt (by omega) h.1.dg (by omega) h.2.2 (by omega) (by simp only [n0] at h1; show ((st.n + n + 2 * 2 ^ 2 : Nat) : Int) < 100; omega)
  have HEND : Hid (∀ w1 w5 db Fp st kc calls F a b, (Bd w1 db ((2 : Nat) : Int) 100 st0 0 Fp ∧ Keeps (fun _ => False) w w1 ∧ ∀ x, Fp x → w.heap.size ≤ x) → DgTo w.heap.size w1 2 db 100 st0 0 Fp a b st kc calls F w5 → Below w.heap.size w w5) := fun w1 w5 db Fp st kc calls F a b h1 h => by
    have hb1 : Below w.heap.size w w1 := h1.2.1.below (Nat.le_refl _) (fun _ _ x => x)
    exact hb1.trans (h.mv.keeps.below hb1.size (fun x hx hf => by have := h1.2.2 x hf; omega))
  have HLITS : Hid (∀ W v, ReadsII W v [[1, -1], [-1, 1]] → Calls Try.prog 22 #[v] W fun e W' => e = .returned (.int .i64 2) ∧ W = W') := fun W v h => by
    have q := literals_spec h (by decide) (by decide)
    have e : litsL [[1, -1], [-1, 1]] = 2 := by decide
    rw [e] at q
    exact q
  have HPRI : Hid (∀ W : World, Calls Try.prog 21 #[.slice (some ⟨W.heap.size, 0, none⟩) 3 3] (W.alloc (.cells #[.int .i64 1, .int .i64 (-1), .int .i64 0] 3)) fun e W' => e = .returned (.string ⟨#[49, 45, 48]⟩) ∧ Hid (Below W.heap.size W W')) := fun W => by
    have hb : CubeBlk (W.alloc (.cells #[.int .i64 1, .int .i64 (-1), .int .i64 0] 3)) W.heap.size [1, -1, 0] := (MapKept.heap_alloc W _).1
    refine (cprint_spec (hb.reads (k := 3) rfl) (by decide) (by decide)).mono ?_
    rintro e W' ⟨rfl, h⟩
    have hb0 : Below W.heap.size W (W.alloc (.cells #[.int .i64 1, .int .i64 (-1), .int .i64 0] 3)) := Below.alloc (Below.refl _ W) (Nat.le_refl _) _
    refine ⟨?_, hb0.trans (h.out.mono hb0.size)⟩
    have e : printC [1, -1, 0] = [49, 45, 48] := by decide
    rw [e]
  clear hbt hn48 hc24 f0 n0 hd2
  go_enter Try.func15, Try.ntmps15
  go_wp2_with fail
  refine HN.out.mono ?_
  rintro e w1 ⟨db, Fp, rfl, h1⟩
  have HQ := Lib.hid (HLIT0.out w1 db Fp h1.out)
  have HSZ := Lib.hid h1.out.2.1.size
  clear HN HLIT0
  go_wp2_with fail
  refine HQ.out.mono ?_
  rintro e w2 ⟨f, s2, k2, c2, F2, rfl, h2⟩
  clear HQ
  have HQ := Lib.hid (HLIT1.out w1 w2 db Fp s2 k2 c2 F2 f ⟨h2.out.1, HSZ.out, h2.out.2.1⟩)
  clear HLIT1
  go_wp2_with fail
  refine HQ.out.mono ?_
  rintro e w3 ⟨g, s3, k3, c3, F3, rfl, h3⟩
  clear HQ
  have HT3 := Lib.hid (h2.out.1.trans h3.out.1)
  have HQ := Lib.hid (HREST.out w1 w3 db Fp s3 k3 c3 F3 f g ⟨HT3.out, HSZ.out, h2.out.2.1.to h3.out.1 h2.out.1.dg.good, h2.out.2.2.to h2.out.2.1 h3.out.1, h3.out.2.1, h3.out.2.2⟩)
  clear HREST h2 h3
  go_wp2_with fail
  refine HQ.out.mono ?_
  rintro e w4 ⟨r, s4, k4, c4, F4, rfl, h4⟩
  clear HQ
  have HT4 := Lib.hid (HT3.out.trans h4.out.1)
  have HQ := Lib.hid (HCOV.out w1 w4 db Fp s4 k4 c4 F4 r ⟨HT4.out, HSZ.out, h4.out.2.1⟩)
  clear HCOV h4 HT3
  go_wp2_with fail
  refine HQ.out.mono ?_
  rintro e w5 ⟨ao, cap, bs, s5, k5, c5, F5, rfl, h5⟩
  have HB5 := Lib.hid (HEND.out _ _ _ _ _ _ _ _ _ _ h1.out (HT4.out.trans h5.out.1))
  have HLI := Lib.hid (HLITS.out w5 _ h5.out.2.1.reads)
  have HPR := Lib.hid (HPRI.out w5)
  clear HQ HT4 h5 HEND HLITS HPRI h1
  rw [show ([[1, -1], [-1, 1]] : List (List Int)).length = 2 from rfl] at HLI ⊢
  go_wp2_with (first | (go_at_call 22; refine HLI.out.mono ?_; rintro e wA ⟨rfl, rfl⟩) | (go_at_call 21; refine HPR.out.mono ?_; rintro e wA ⟨rfl, hA⟩))
  have HP : Hid (Below w.heap.size w wA) := HB5.out.trans (hA.out.mono HB5.out.size)
  clear HB5 hA HLI HPR
  go_ret
  exact ⟨rfl, HP⟩
end Go.Proofs.Ytloidoekmicloaa
