/-
  The library's sort, and its compaction, of rows of numbers: their contracts at this program.
-/
import Derived.Test.YtahnedkdodjomaaIntKit
import Derived.Shelf.Sort.Plain
import Derived.Shelf.Slices.CompactI
set_option linter.unusedVariables false
set_option linter.unusedSimpArgs false
set_option linter.unnecessarySimpa false
namespace Go.Proofs.Ytahnedkdodjomaa
open Go.ChangeShapes Go.WideShapes Go.ChangeAt Go.RowKit Go.Deep
def sortRen : Go.Shelf.Ren := ⟨fun | 189 => 17 | 125 => 29 | 257 => 28 | 128 => 43 | 129 => 44 | 294 => 34 | 295 => 35 | 296 => 36 | 297 => 37 | 298 => 38 | 299 => 39 | 216 => 40 | 300 => 41 | 301 => 42 | 328 => 47 | 329 => 48 | 330 => 49 | 331 => 50 | 332 => 51 | 215 => 52 | 343 => 54 | n => n, fun | 28 => 28 | 3 => 3 | 46 => 70 | 0 => 0 | 51 => 83 | 53 => 85 | 4 => 4 | 183 => 77 | 182 => 76 | 131 => 52 | 5 => 5 | 9 => 9 | 218 => 86 | 222 => 90 | 228 => 92 | 229 => 93 | n => n, fun | n => n⟩
theorem sortLays : Go.Proofs.Lays.n189 Try.prog sortRen := {
  mixed := by kernel_rfl
  f125 := Try.func29.trans (congrArg some (by kernel_rfl))
  f128 := Try.func43.trans (congrArg some (by kernel_rfl))
  f129 := Try.func44.trans (congrArg some (by kernel_rfl))
  f189 := Try.func17.trans (congrArg some (by kernel_rfl))
  f215 := Try.func52.trans (congrArg some (by kernel_rfl))
  f216 := Try.func40.trans (congrArg some (by kernel_rfl))
  f257 := Try.func28.trans (congrArg some (by kernel_rfl))
  f294 := Try.func34.trans (congrArg some (by kernel_rfl))
  f295 := Try.func35.trans (congrArg some (by kernel_rfl))
  f296 := Try.func36.trans (congrArg some (by kernel_rfl))
  f297 := Try.func37.trans (congrArg some (by kernel_rfl))
  f298 := Try.func38.trans (congrArg some (by kernel_rfl))
  f299 := Try.func39.trans (congrArg some (by kernel_rfl))
  f300 := Try.func41.trans (congrArg some (by kernel_rfl))
  f301 := Try.func42.trans (congrArg some (by kernel_rfl))
  f328 := Try.func47.trans (congrArg some (by kernel_rfl))
  f329 := Try.func48.trans (congrArg some (by kernel_rfl))
  f330 := Try.func49.trans (congrArg some (by kernel_rfl))
  f331 := Try.func50.trans (congrArg some (by kernel_rfl))
  f332 := Try.func51.trans (congrArg some (by kernel_rfl))
  f343 := Try.func54.trans (congrArg some (by kernel_rfl))
  t0 := Try.underlying0
  a0 := Try.isAgg0
  z0 := Try.sizeOf0
  v0 := Try.zeroValue0
  t3 := Try.underlying3
  a3 := Try.isAgg3
  z3 := Try.sizeOf3
  v3 := Try.zeroValue3
  t4 := Try.underlying4
  a4 := Try.isAgg4
  z4 := Try.sizeOf4
  v4 := Try.zeroValue4
  t5 := Try.underlying5
  a5 := Try.isAgg5
  z5 := Try.sizeOf5
  v5 := Try.zeroValue5
  t9 := Try.underlying9
  a9 := Try.isAgg9
  z9 := Try.sizeOf9
  v9 := Try.zeroValue9
  t28 := Try.underlying28
  a28 := Try.isAgg28
  z28 := Try.sizeOf28
  v28 := Try.zeroValue28
  t46 := Try.underlying70
  a46 := Try.isAgg70
  z46 := Try.sizeOf70
  v46 := Try.zeroValue70
  t51 := Try.underlying83
  a51 := Try.isAgg83
  z51 := Try.sizeOf83
  v51 := Try.zeroValue83
  t53 := Try.underlying85
  a53 := Try.isAgg85
  z53 := Try.sizeOf85
  v53 := Try.zeroValue85
  t131 := Try.underlying52
  a131 := Try.isAgg52
  z131 := Try.sizeOf52
  v131 := Try.zeroValue52
  t182 := Try.underlying76
  a182 := Try.isAgg76
  z182 := Try.sizeOf76
  v182 := Try.zeroValue76
  t183 := Try.underlying77
  a183 := Try.isAgg77
  z183 := Try.sizeOf77
  v183 := Try.zeroValue77
  t218 := Try.underlying86
  a218 := Try.isAgg86
  z218 := Try.sizeOf86
  v218 := Try.zeroValue86
  t222 := Try.underlying90
  a222 := Try.isAgg90
  z222 := Try.sizeOf90
  v222 := Try.zeroValue90
  t228 := Try.underlying92
  a228 := Try.isAgg92
  z228 := Try.sizeOf92
  v228 := Try.zeroValue92
  t229 := Try.underlying93
  a229 := Try.isAgg93
  z229 := Try.sizeOf93
  v229 := Try.zeroValue93 }
def compactRen : Go.Shelf.Ren := ⟨fun | 20 => 18 | n => n, fun | 22 => 28 | 3 => 3 | 4 => 4 | 0 => 0 | n => n, fun | n => n⟩
theorem compactLays : Go.Proofs.Lays2.n20 Try.prog compactRen := {
  mixed := by kernel_rfl
  f20 := Try.func18.trans (congrArg some (by kernel_rfl))
  t0 := Try.underlying0
  a0 := Try.isAgg0
  z0 := Try.sizeOf0
  v0 := Try.zeroValue0
  t3 := Try.underlying3
  a3 := Try.isAgg3
  z3 := Try.sizeOf3
  v3 := Try.zeroValue3
  t4 := Try.underlying4
  a4 := Try.isAgg4
  z4 := Try.sizeOf4
  v4 := Try.zeroValue4
  t22 := Try.underlying28
  a22 := Try.isAgg28
  z22 := Try.sizeOf28
  v22 := Try.zeroValue28
  i3 := by kernel_rfl }
/-- What the sort leaves. -/
theorem qsort_spec {w : World} {blk off cap : Nat} {zs : List Int} (hH : Go.Sort.Holds (Value.int .i64) w blk off zs.toArray) (hblk : blk < w.heap.size) (hsz : zs.length ≤ 1000000) :
    Calls Try.prog 17 #[.slice (some ⟨blk, off, none⟩) zs.length cap] w fun e w' => e = .returned (.tuple #[]) ∧ Hid (Keeps (fun q => q = blk) w w' ∧ Go.Sort.Holds (Value.int .i64) w' blk off (zs.mergeSort fun x y => decide (x ≤ y)).toArray ∧ ∀ c t fr, w.heap[blk]? = some (.cells c t fr) → ∃ c', w'.heap[blk]? = some (.cells c' t fr) ∧ c'.size = c.size) := by
  refine (Any.slices_Sort_int sortLays blk off cap zs w hH hblk (by omega)).mono ?_
  rintro e w' ⟨rfl, n, os, rfl⟩
  have hs : (zs.mergeSort fun x y => decide (x ≤ y)).toArray.size = zs.toArray.size := by simp
  have hb2 : blk < (Go.Sort.putRow (Value.int .i64) (Go.Sort.ahead w n) blk off (zs.mergeSort fun x y => decide (x ≤ y)).toArray).heap.size := by
    rw [Go.Sort.size_putRow]; exact hblk
  refine ⟨rfl, ⟨rfl, rfl, rfl, by rw [Go.Sort.size_grow, Go.Sort.size_putRow]; show w.heap.size ≤ w.heap.size + _; omega, fun k hk hq => ?_⟩, Go.Sort.holds_grow _ _ _ _ _ _ hb2 (Go.Sort.holds_putRow _ _ _ _ zs.toArray _ (Go.Sort.holds_ahead _ _ _ _ _ _ hH) hs), fun c t fr hc => ?_⟩
  · rw [Go.Sort.heap_grow_old _ _ (by rw [Go.Sort.size_putRow]; exact hk)]
    show (w.heap.modify blk _)[k]? = w.heap[k]?
    rw [Array.getElem?_modify, if_neg (fun e => hq e.symm)]
  · refine ⟨Go.Sort.putCells (Value.int .i64) off (zs.mergeSort fun x y => decide (x ≤ y)).toArray c, ?_, by simp [Go.Sort.putCells]⟩
    rw [Go.Sort.heap_grow_old _ _ hb2]
    show (w.heap.modify blk _)[blk]? = _
    rw [Array.getElem?_modify, if_pos rfl, hc]
    rfl
theorem qcompact_spec {w : World} {blk off cap : Nat} {zs : List Int} (hH : Go.Sort.Holds (Value.int .i64) w blk off zs.toArray) (hcap : zs.length ≤ cap) (hblk : blk < w.heap.size) (hsz : zs.length ≤ 1000000) :
    Calls Try.prog 18 #[.slice (some ⟨blk, off, none⟩) zs.length cap] w fun e w' => e = .returned (.slice (some ⟨blk, off, none⟩) (Go.Lib.compactUpTo zs.toArray zs.length).length cap) ∧ Hid (Keeps (fun q => q = blk) w w' ∧ ∀ (j : Nat) (x : Int), (Go.Lib.compactUpTo zs.toArray zs.length)[j]? = some x → w'.cell? ⟨blk, off + j, none⟩ = some (.int .i64 x)) := by
  refine (Any.slices_Compact_int_arr compactLays blk off cap zs.toArray w hH (by simp; omega) (by simpa using hcap)).mono ?_
  rintro e w' ⟨rfl, n, rfl⟩
  have hle : (Go.Lib.compactUpTo zs.toArray zs.length).length ≤ zs.length := by
    unfold Go.Lib.compactUpTo
    rw [List.length_map]
    exact Nat.le_trans (List.length_filter_le _ _) (by simp)
  have hsize : zs.toArray.size = zs.length := by simp
  rw [hsize]
  obtain ⟨d', hd'⟩ : ∃ d', (Go.Lib.compactUpTo zs.toArray zs.length ++ List.replicate (zs.length - (Go.Lib.compactUpTo zs.toArray zs.length).length) 0).toArray = d' := ⟨_, rfl⟩
  rw [hd']
  have hs : d'.size = zs.toArray.size := by rw [← hd']; simp; omega
  refine ⟨rfl, ⟨rfl, rfl, rfl, by rw [Go.Sort.size_putRow]; exact Nat.le_refl _, fun k hk hq => ?_⟩, fun j x hx => ?_⟩
  · show (w.heap.modify blk _)[k]? = w.heap[k]?
    rw [Array.getElem?_modify, if_neg (fun e => hq e.symm)]
  · have hj : j < (Go.Lib.compactUpTo zs.toArray zs.length).length := by
      rcases Nat.lt_or_ge j (Go.Lib.compactUpTo zs.toArray zs.length).length with h | h
      · exact h
      · rw [List.getElem?_eq_none h] at hx; cases hx
    have hh := Go.Sort.holds_putRow (Value.int .i64) (Go.Sort.ahead w n) blk off zs.toArray d' (Go.Sort.holds_ahead _ _ _ _ _ _ hH) hs j (by rw [hs, hsize]; omega)
    rw [hh.1]
    congr 2
    have h2 : d'[j]? = some x := by
      rw [← hd', List.getElem?_toArray, List.getElem?_append_left hj]
      exact hx
    rw [getElem!_def, h2]
end Go.Proofs.Ytahnedkdodjomaa
