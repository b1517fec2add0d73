/-
  The document's example.
-/
import Derived.Test.YtonkfkgbmlcceaaNameFresh
import Derived.Test.YtonkfkgbmlcceaaNameIs
set_option linter.unusedVariables false
set_option linter.unusedSimpArgs false
set_option linter.unnecessarySimpa false
namespace Go.Proofs.Ytonkfkgbmlcceaa
open Go.ChangeShapes Go.WideShapes Go.ChangeAt Go.RowKit Go.Deep
theorem two_reads (W : World) (a b : Str) : ReadsS (W.alloc (.cells #[.string ⟨a.toArray⟩, .string ⟨b.toArray⟩] 9)) (.slice (some ⟨W.heap.size, 0, none⟩) 2 2) [a, b] := by
  have ha := (MapKept.heap_alloc W (.cells #[.string ⟨a.toArray⟩, .string ⟨b.toArray⟩] 9)).1
  refine ⟨_, 2, rfl, Nat.le_refl _, fun _ => ⟨W.heap.size, 0, rfl, lt_of_heap ha, fun j x hj => ?_⟩⟩
  rw [cell_of_heap ha]
  match j, hj with
  | 0, hj => simp at hj; subst hj; rfl
  | 1, hj => simp at hj; subst hj; rfl
  | j + 2, hj => simp at hj
theorem lives_tab : tabL [[88, 49], [66]] = [[66], [88, 49]] := tab_eq (by decide) (fun x => by simp only [List.mem_cons, List.not_mem_nil, or_false]; exact or_comm)
theorem lives_fresh : freshL [[66], [88, 49]] 2 = [[88, 50], [88, 51]] := by
  have x1 : xL (0 + 1) = [88, 49] := by unfold xL; rw [decL_lt (by decide)]; rfl
  have x2 : xL (1 + 1) = [88, 50] := by unfold xL; rw [decL_lt (by decide)]; rfl
  have x3 : xL (2 + 1) = [88, 51] := by unfold xL; rw [decL_lt (by decide)]; rfl
  have e : freshUp [[66], [88, 49]] 3 = [[88, 50], [88, 51]] := by
    rw [show (3 : Nat) = 2 + 1 from rfl, freshUp_succ, x3, if_neg (by decide), show (2 : Nat) = 1 + 1 from rfl, freshUp_succ, x2, if_neg (by decide), show (1 : Nat) = 0 + 1 from rfl, freshUp_succ, x1, if_pos (by decide)]
    rfl
  rw [← fresh_done (K := 3) (by rw [e]; rfl), e]
set_option maxRecDepth 100000
set_option maxHeartbeats 3200000
theorem lives01_any (w : World) : Calls Try.prog 10 #[] w fun e w' => e = .returned (.bool true) ∧ Below w.heap.size w w' := by
  obtain ⟨w0, hw0⟩ : ∃ w0, w.alloc (.cells #[.string ⟨#[88, 49]⟩, .string ⟨#[66]⟩] 9) = w0 := ⟨_, rfl⟩
  have hk0 : Keeps (fun _ => False) w w0 := by rw [← hw0]; exact (Keeps.refl _ _).alloc _
  have hr0 : ReadsS w0 (.slice (some ⟨w.heap.size, 0, none⟩) 2 2) [[88, 49], [66]] := by rw [← hw0]; exact two_reads w [88, 49] [66]
  have HNW := names_new hr0 (by decide)
  rw [lives_tab] at HNW
  have HNW := Lib.hid HNW
  have HK0 := Lib.hid hk0
  clear hr0 hk0
  go_enter Try.func10, Try.ntmps10
  go_wp2_with fail
  try rw [hw0]
  refine HNW.out.mono ?_
  rintro e w1 ⟨p, rfl, h1⟩
  have HT1 := Lib.hid h1.out.2
  have HK1 := Lib.hid (HK0.out.trans h1.out.1)
  have HFR := names_fresh h1.out.2 (by decide) (by decide) 2 (by decide) (by decide)
  rw [lives_fresh] at HFR
  have HFR := Lib.hid HFR
  clear HNW HK0 hw0 h1
  go_wp2_with fail
  refine HFR.out.mono ?_
  rintro e w2 ⟨v2, rfl, h2⟩
  obtain ⟨w3, hw3⟩ : ∃ w3, w2.alloc (.cells #[.string ⟨#[88, 50]⟩, .string ⟨#[88, 51]⟩] 9) = w3 := ⟨_, rfl⟩
  have hk3 : Keeps (fun _ => False) w2 w3 := by rw [← hw3]; exact (Keeps.refl _ _).alloc _
  have hr3 : ReadsS w3 (.slice (some ⟨w2.heap.size, 0, none⟩) 2 2) [[88, 50], [88, 51]] := by rw [← hw3]; exact two_reads w2 [88, 50] [88, 51]
  have HSM := Lib.hid (ref_same (h2.out.2.keeps hk3) hr3 (by decide) rfl)
  have HT3 := Lib.hid ((HT1.out.keeps h2.out.1).keeps hk3)
  have HK3 := Lib.hid ((HK1.out.trans h2.out.1).trans hk3)
  clear HFR h2 HT1 HK1 hk3 hr3
  go_wp2_with fail
  try rw [hw3]
  refine HSM.out.mono ?_
  rintro e w' ⟨rfl, nq, rfl⟩
  have HT4 := Lib.hid (HT3.out.keeps ((Keeps.refl (fun _ => False) w3).drewN nq))
  have HK4 := Lib.hid (HK3.out.drewN nq)
  generalize w3.drewN nq = w4 at *
  have HLN := Lib.hid (names_len HT4.out)
  have HFD : Hid (Calls Try.prog 15 #[.pointer (some ⟨p, 0, none⟩), .string ⟨#[88, 49]⟩] w4 fun e W' => e = .returned (.int .i64 1) ∧ w4 = W') := by
    have q := names_find HT4.out (by decide) (by decide) [88, 49]
    rw [show atL [[66], [88, 49]] [88, 49] = 1 from at_get (i := 1) (by decide) rfl] at q
    exact q
  have HPR : Hid (Calls Try.prog 6 #[.string ⟨#[66, 111, 98]⟩] w4 fun e w' => e = .returned (.bool true) ∧ w4 = w') := names_prin ⟨#[66, 111, 98]⟩ w4
  have HNM : Hid (Calls Try.prog 8 #[.string ⟨#[102, 114, 105, 101, 110, 100]⟩] w4 fun e w' => e = .returned (.bool true) ∧ w4 = w') := names_name ⟨#[102, 114, 105, 101, 110, 100]⟩ w4
  clear HSM HT3 HK3 hw3 HT4
  go_wp2_with fail
  refine HLN.out.mono ?_
  rintro e w' ⟨rfl, rfl⟩
  go_wp2_with fail
  refine HFD.out.mono ?_
  rintro e w' ⟨rfl, rfl⟩
  go_wp2_with fail
  refine HPR.out.mono ?_
  rintro e w' ⟨rfl, rfl⟩
  go_wp2_with fail
  refine HNM.out.mono ?_
  rintro e w' ⟨rfl, rfl⟩
  go_wp2_with fail
  go_ret
  exact ⟨rfl, HK4.out.below (Nat.le_refl _) (fun _ _ x => x.elim)⟩
end Go.Proofs.Ytonkfkgbmlcceaa
