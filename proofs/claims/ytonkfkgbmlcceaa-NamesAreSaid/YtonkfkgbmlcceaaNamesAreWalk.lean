/-
  The walk of the law NamesAre.
-/
import Derived.Test.YtonkfkgbmlcceaaNameLives
set_option linter.unusedVariables false
set_option linter.unusedSimpArgs false
set_option linter.unnecessarySimpa false
namespace Go.Proofs.Ytonkfkgbmlcceaa
open Go.ChangeShapes Go.WideShapes Go.ChangeAt Go.RowKit Go.Deep
theorem not_both (s : ByteArray) : (isB 65 90 s && isB 97 122 s) = false := by
  rw [Bool.eq_false_iff]
  intro h
  unfold isB inB at h
  simp only [Bool.and_eq_true, decide_eq_true_eq] at h
  omega
set_option maxRecDepth 100000
set_option maxHeartbeats 3200000
theorem namesAre_walk (w : World) (s : ByteArray) (hs : s.size ≤ maxLen) :
    Calls Try.prog 3 #[.string s] w fun e w' => e = .returned (.bool true) ∧ Below w.heap.size w w' := by
  obtain ⟨m, hm⟩ : ∃ m, min s.size 40 = m := ⟨_, rfl⟩
  have hmn : min (s.size : Int) 40 = (m : Int) := by omega
  have hm0 : (0 : Int) ≤ (m : Int) := by omega
  have hms : (m : Int) ≤ (s.size : Int) := by omega
  have hms2 : m ≤ s.size := by omega
  have HPR := Lib.hid (fun s => names_prin s w)
  have HNM := Lib.hid (fun s => names_name s w)
  have HRP := Lib.hid (fun s => ref_prin s w)
  have HRN := Lib.hid (fun s => ref_name s w)
  have HL := Lib.hid lives01_any
  clear hm
  go_enter Try.func3, Try.ntmps3
  go_wp2_with fail
  refine (HPR.out _).mono ?_
  rintro e w' ⟨rfl, rfl⟩
  have HNB := Lib.hid (not_both (s.extract 0 m))
  generalize s.extract 0 m = x at *
  generalize hp : isB 65 90 x = p at *
  generalize hq : isB 97 122 x = q at *
  go_wp2_with fail
  refine (HRP.out _).mono ?_
  rintro e w' ⟨rfl, rfl⟩
  rw [hp]
  cases p with
  | true =>
    obtain rfl : q = false := by have h : (true && q) = false := HNB.out; simpa using h
    go_wp2_with fail
    refine (HNM.out _).mono ?_
    rintro e w' ⟨rfl, rfl⟩
    rw [hq]
    go_wp2_with fail
    refine (HRN.out _).mono ?_
    rintro e w' ⟨rfl, rfl⟩
    rw [hq]
    go_wp2_with fail
    refine (HPR.out _).mono ?_
    rintro e w' ⟨rfl, rfl⟩
    rw [hp]
    go_wp2_with fail
    refine (HNM.out _).mono ?_
    rintro e w' ⟨rfl, rfl⟩
    rw [hq]
    go_wp2_with fail
    refine (HL.out _).mono ?_
    rintro e w2 ⟨rfl, hb⟩
    go_wp2_with fail
    go_ret
    exact ⟨rfl, hb⟩
  | false =>
    go_wp2_with fail
    refine (HNM.out _).mono ?_
    rintro e w' ⟨rfl, rfl⟩
    rw [hq]
    go_wp2_with fail
    refine (HRN.out _).mono ?_
    rintro e w' ⟨rfl, rfl⟩
    rw [hq]
    cases q
    all_goals
      go_wp2_with fail
      refine (HPR.out _).mono ?_
      rintro e w' ⟨rfl, rfl⟩
      rw [hp]
      go_wp2_with fail
      refine (HL.out _).mono ?_
      rintro e w2 ⟨rfl, hb⟩
      go_wp2_with fail
      go_ret
      exact ⟨rfl, hb⟩
end Go.Proofs.Ytonkfkgbmlcceaa
