/-
  Rows of statements and of roles as rows of elements of several cells.
-/
import Derived.Test.YtcdfpnlaklaafaaGreatMC
import Derived.Test.YtcdfpnlaklaafaaGreatMD
set_option linter.unusedVariables false
set_option linter.unusedSimpArgs false
set_option linter.unnecessarySimpa false
namespace Go.Proofs.YtcdfpnlaklaafaaGreat
open Go.ChangeShapes Go.WideShapes Go.ChangeAt Go.RowKit Go.Deep
def stmEnc (s : Stm) : List Value := [.int .i64 s.2.1, .string ⟨s.1.1.toArray⟩, .string ⟨s.1.2.toArray⟩, .string ⟨s.2.2.1.toArray⟩, .string ⟨s.2.2.2.1.1.toArray⟩, .string ⟨s.2.2.2.1.2.toArray⟩, .string ⟨s.2.2.2.2.1.1.toArray⟩, .string ⟨s.2.2.2.2.1.2.toArray⟩, .string ⟨s.2.2.2.2.2.toArray⟩]
theorem stmInfo : (Tryz.prog.info? 44).map (fun i => (i.zero, i.size, i.bytes)) = some (some (.agg #[.int .i64 0, .string ⟨#[]⟩, .string ⟨#[]⟩, .string ⟨#[]⟩, .string ⟨#[]⟩, .string ⟨#[]⟩, .string ⟨#[]⟩, .string ⟨#[]⟩, .string ⟨#[]⟩]), 9, 136) := by kernel_rfl
theorem stm_one (x : Stm) : ∀ v ∈ stmEnc x, v.oneCell' = true := fun v hv => by
  unfold stmEnc at hv
  simp only [List.mem_cons, List.not_mem_nil, or_false] at hv
  rcases hv with rfl | rfl | rfl | rfl | rfl | rfl | rfl | rfl | rfl <;> rfl
def stmE : Elt Stm where
  enc := stmEnc
  k := 9
  pos := by decide
  len := fun _ => rfl
  one := stm_one
  T := 44
  S := 53
  z := .agg #[.int .i64 0, .string ⟨#[]⟩, .string ⟨#[]⟩, .string ⟨#[]⟩, .string ⟨#[]⟩, .string ⟨#[]⟩, .string ⟨#[]⟩, .string ⟨#[]⟩, .string ⟨#[]⟩]
  bytes := 136
  hS := Tryz.underlying53
  hT := stmInfo
  hz := rfl
  hb := by decide
def rolEnc (s : Rol) : List Value := [.string ⟨s.1.toArray⟩, .string ⟨s.2.toArray⟩]
theorem rolInfo : (Tryz.prog.info? 40).map (fun i => (i.zero, i.size, i.bytes)) = some (some (.agg #[.string ⟨#[]⟩, .string ⟨#[]⟩]), 2, 32) := by kernel_rfl
theorem rol_one (x : Rol) : ∀ v ∈ rolEnc x, v.oneCell' = true := fun v hv => by
  unfold rolEnc at hv
  simp only [List.mem_cons, List.not_mem_nil, or_false] at hv
  rcases hv with rfl | rfl <;> rfl
def rolE : Elt Rol where
  enc := rolEnc
  k := 2
  pos := by decide
  len := fun _ => rfl
  one := rol_one
  T := 40
  S := 54
  z := .agg #[.string ⟨#[]⟩, .string ⟨#[]⟩]
  bytes := 32
  hS := Tryz.underlying54
  hT := rolInfo
  hz := rfl
  hb := by decide
theorem stm_cells {w : World} {g o : Nat} {s : Stm} (h : ∀ (i : Nat) (u : Value), (stmE.enc s)[i]? = some u → w.cell? ⟨g, o + i, none⟩ = some u) : Nine w g o s :=
  ⟨h 0 _ rfl, h 1 _ rfl, h 2 _ rfl, h 3 _ rfl, h 4 _ rfl, h 5 _ rfl, h 6 _ rfl, h 7 _ rfl, h 8 _ rfl⟩
theorem stm_back {w : World} {g o : Nat} {s : Stm} (h : Nine w g o s) : ∀ (i : Nat) (u : Value), (stmE.enc s)[i]? = some u → w.cell? ⟨g, o + i, none⟩ = some u := fun i u hu => by
  obtain ⟨h0, h1, h2, h3, h4, h5, h6, h7, h8⟩ := h
  match i, hu with
  | 0, hu => rw [← hu]; exact h0
  | 1, hu => rw [← hu]; exact h1
  | 2, hu => rw [← hu]; exact h2
  | 3, hu => rw [← hu]; exact h3
  | 4, hu => rw [← hu]; exact h4
  | 5, hu => rw [← hu]; exact h5
  | 6, hu => rw [← hu]; exact h6
  | 7, hu => rw [← hu]; exact h7
  | 8, hu => rw [← hu]; exact h8
  | i + 9, hu => cases hu
theorem rdk_m {w : World} {v : Value} {l : List Stm} : RdK stmE w v l ↔ ReadsM w v l := by
  constructor
  · rintro ⟨ao, cap, hv, hle, hr⟩
    refine ⟨ao, cap, hv, hle, fun h0 => ?_⟩
    obtain ⟨g, off, h1, h2, h3⟩ := hr h0
    exact ⟨g, off, h1, h2, fun j x hj => stm_cells (h3 j x hj)⟩
  · rintro ⟨ao, cap, hv, hle, hr⟩
    refine ⟨ao, cap, hv, hle, fun h0 => ?_⟩
    obtain ⟨g, off, h1, h2, h3⟩ := hr h0
    exact ⟨g, off, h1, h2, fun j x hj => stm_back (h3 j x hj)⟩
theorem rdk_r {w : World} {v : Value} {l : List Rol} : RdK rolE w v l ↔ ReadsR w v l := by
  constructor
  · rintro ⟨ao, cap, hv, hle, hr⟩
    refine ⟨ao, cap, hv, hle, fun h0 => ?_⟩
    obtain ⟨g, off, h1, h2, h3⟩ := hr h0
    exact ⟨g, off, h1, h2, fun j x hj => ⟨h3 j x hj 0 _ rfl, h3 j x hj 1 _ rfl⟩⟩
  · rintro ⟨ao, cap, hv, hle, hr⟩
    refine ⟨ao, cap, hv, hle, fun h0 => ?_⟩
    obtain ⟨g, off, h1, h2, h3⟩ := hr h0
    refine ⟨g, off, h1, h2, fun j x hj i u hu => ?_⟩
    match i, hu with
    | 0, hu => rw [← hu]; exact (h3 j x hj).1
    | 1, hu => rw [← hu]; exact (h3 j x hj).2
    | i + 2, hu => cases hu
end Go.Proofs.YtcdfpnlaklaafaaGreat
