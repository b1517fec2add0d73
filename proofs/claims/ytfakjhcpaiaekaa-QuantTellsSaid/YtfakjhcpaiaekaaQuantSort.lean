/-
  The library's sort, and its compaction, of rows of numbers: their contracts at this program.
-/
import Derived.Test.YtfakjhcpaiaekaaOrdRows
import Derived.Shelf.Sort.Plain
import Derived.Shelf.Slices.CompactI
set_option linter.unusedVariables false
set_option linter.unusedSimpArgs false
set_option linter.unnecessarySimpa false
namespace Go.Proofs.Ytfakjhcpaiaekaa
open Go.ChangeShapes Go.WideShapes Go.ChangeAt Go.RowKit Go.Deep
def sortRen : Go.Shelf.Ren := ⟨fun | 189 => 59 | 125 => 81 | 257 => 80 | 128 => 98 | 129 => 99 | 294 => 89 | 295 => 90 | 296 => 91 | 297 => 92 | 298 => 93 | 299 => 94 | 216 => 95 | 300 => 96 | 301 => 97 | 328 => 102 | 329 => 103 | 330 => 104 | 331 => 105 | 332 => 106 | 215 => 107 | 343 => 108 | n => n, fun | 28 => 27 | 3 => 3 | 46 => 22 | 0 => 0 | 51 => 118 | 53 => 34 | 4 => 4 | 183 => 132 | 182 => 131 | 131 => 92 | 5 => 5 | 9 => 9 | 218 => 142 | 222 => 145 | 228 => 147 | 229 => 107 | n => n, fun | n => n⟩
theorem sortLays : Go.Proofs.Lays.n189 Try.prog sortRen := {
  mixed := by kernel_rfl
  f125 := Try.func81.trans (congrArg some (by kernel_rfl))
  f128 := Try.func98.trans (congrArg some (by kernel_rfl))
  f129 := Try.func99.trans (congrArg some (by kernel_rfl))
  f189 := Try.func59.trans (congrArg some (by kernel_rfl))
  f215 := Try.func107.trans (congrArg some (by kernel_rfl))
  f216 := Try.func95.trans (congrArg some (by kernel_rfl))
  f257 := Try.func80.trans (congrArg some (by kernel_rfl))
  f294 := Try.func89.trans (congrArg some (by kernel_rfl))
  f295 := Try.func90.trans (congrArg some (by kernel_rfl))
  f296 := Try.func91.trans (congrArg some (by kernel_rfl))
  f297 := Try.func92.trans (congrArg some (by kernel_rfl))
  f298 := Try.func93.trans (congrArg some (by kernel_rfl))
  f299 := Try.func94.trans (congrArg some (by kernel_rfl))
  f300 := Try.func96.trans (congrArg some (by kernel_rfl))
  f301 := Try.func97.trans (congrArg some (by kernel_rfl))
  f328 := Try.func102.trans (congrArg some (by kernel_rfl))
  f329 := Try.func103.trans (congrArg some (by kernel_rfl))
  f330 := Try.func104.trans (congrArg some (by kernel_rfl))
  f331 := Try.func105.trans (congrArg some (by kernel_rfl))
  f332 := Try.func106.trans (congrArg some (by kernel_rfl))
  f343 := Try.func108.trans (congrArg some (by kernel_rfl))
  t0 := Try.underlying0
  a0 := Try.isAgg0
  z0 := Try.sizeOf0
  v0 := Try.zeroValue0
  t3 := Try.underlying3
  a3 := Try.isAgg3
  z3 := Try.sizeOf3
  v3 := Try.zeroValue3
  t4 := Try.underlying4
  a4 := Try.isAgg4
  z4 := Try.sizeOf4
  v4 := Try.zeroValue4
  t5 := Try.underlying5
  a5 := Try.isAgg5
  z5 := Try.sizeOf5
  v5 := Try.zeroValue5
  t9 := Try.underlying9
  a9 := Try.isAgg9
  z9 := Try.sizeOf9
  v9 := Try.zeroValue9
  t28 := Try.underlying27
  a28 := Try.isAgg27
  z28 := Try.sizeOf27
  v28 := Try.zeroValue27
  t46 := Try.underlying22
  a46 := Try.isAgg22
  z46 := Try.sizeOf22
  v46 := Try.zeroValue22
  t51 := Try.underlying118
  a51 := Try.isAgg118
  z51 := Try.sizeOf118
  v51 := Try.zeroValue118
  t53 := Try.underlying34
  a53 := Try.isAgg34
  z53 := Try.sizeOf34
  v53 := Try.zeroValue34
  t131 := Try.underlying92
  a131 := Try.isAgg92
  z131 := Try.sizeOf92
  v131 := Try.zeroValue92
  t182 := Try.underlying131
  a182 := Try.isAgg131
  z182 := Try.sizeOf131
  v182 := Try.zeroValue131
  t183 := Try.underlying132
  a183 := Try.isAgg132
  z183 := Try.sizeOf132
  v183 := Try.zeroValue132
  t218 := Try.underlying142
  a218 := Try.isAgg142
  z218 := Try.sizeOf142
  v218 := Try.zeroValue142
  t222 := Try.underlying145
  a222 := Try.isAgg145
  z222 := Try.sizeOf145
  v222 := Try.zeroValue145
  t228 := Try.underlying147
  a228 := Try.isAgg147
  z228 := Try.sizeOf147
  v228 := Try.zeroValue147
  t229 := Try.underlying107
  a229 := Try.isAgg107
  z229 := Try.sizeOf107
  v229 := Try.zeroValue107 }
def compactRen : Go.Shelf.Ren := ⟨fun | 20 => 60 | n => n, fun | 22 => 27 | 3 => 3 | 4 => 4 | 0 => 0 | n => n, fun | n => n⟩
theorem compactLays : Go.Proofs.Lays2.n20 Try.prog compactRen := {
  mixed := by kernel_rfl
  f20 := Try.func60.trans (congrArg some (by kernel_rfl))
  t0 := Try.underlying0
  a0 := Try.isAgg0
  z0 := Try.sizeOf0
  v0 := Try.zeroValue0
  t3 := Try.underlying3
  a3 := Try.isAgg3
  z3 := Try.sizeOf3
  v3 := Try.zeroValue3
  t4 := Try.underlying4
  a4 := Try.isAgg4
  z4 := Try.sizeOf4
  v4 := Try.zeroValue4
  t22 := Try.underlying27
  a22 := Try.isAgg27
  z22 := Try.sizeOf27
  v22 := Try.zeroValue27
  i3 := by kernel_rfl }
/-- What the sort leaves. -/
theorem qsort_spec {w : World} {blk off cap : Nat} {zs : List Int} (hH : Go.Sort.Holds (Value.int .i64) w blk off zs.toArray) (hblk : blk < w.heap.size) (hsz : zs.length ≤ 1000000) :
    Calls Try.prog 59 #[.slice (some ⟨blk, off, none⟩) zs.length cap] w fun e w' => e = .returned (.tuple #[]) ∧ Hid (Keeps (fun q => q = blk) w w' ∧ Go.Sort.Holds (Value.int .i64) w' blk off (zs.mergeSort fun x y => decide (x ≤ y)).toArray ∧ ∀ c t fr, w.heap[blk]? = some (.cells c t fr) → ∃ c', w'.heap[blk]? = some (.cells c' t fr) ∧ c'.size = c.size) := by
  refine (Any.slices_Sort_int sortLays blk off cap zs w hH hblk (by omega)).mono ?_
  rintro e w' ⟨rfl, n, os, rfl⟩
  have hs : (zs.mergeSort fun x y => decide (x ≤ y)).toArray.size = zs.toArray.size := by simp
  have hb2 : blk < (Go.Sort.putRow (Value.int .i64) (Go.Sort.ahead w n) blk off (zs.mergeSort fun x y => decide (x ≤ y)).toArray).heap.size := by
    rw [Go.Sort.size_putRow]; exact hblk
  refine ⟨rfl, ⟨rfl, rfl, rfl, by rw [Go.Sort.size_grow, Go.Sort.size_putRow]; show w.heap.size ≤ w.heap.size + _; omega, fun k hk hq => ?_⟩, Go.Sort.holds_grow _ _ _ _ _ _ hb2 (Go.Sort.holds_putRow _ _ _ _ zs.toArray _ (Go.Sort.holds_ahead _ _ _ _ _ _ hH) hs), fun c t fr hc => ?_⟩
  · rw [Go.Sort.heap_grow_old _ _ (by rw [Go.Sort.size_putRow]; exact hk)]
    show (w.heap.modify blk _)[k]? = w.heap[k]?
    rw [Array.getElem?_modify, if_neg (fun e => hq e.symm)]
  · refine ⟨Go.Sort.putCells (Value.int .i64) off (zs.mergeSort fun x y => decide (x ≤ y)).toArray c, ?_, by simp [Go.Sort.putCells]⟩
    rw [Go.Sort.heap_grow_old _ _ hb2]
    show (w.heap.modify blk _)[blk]? = _
    rw [Array.getElem?_modify, if_pos rfl, hc]
    rfl
theorem qcompact_spec {w : World} {blk off cap : Nat} {zs : List Int} (hH : Go.Sort.Holds (Value.int .i64) w blk off zs.toArray) (hcap : zs.length ≤ cap) (hblk : blk < w.heap.size) (hsz : zs.length ≤ 1000000) :
    Calls Try.prog 60 #[.slice (some ⟨blk, off, none⟩) zs.length cap] w fun e w' => e = .returned (.slice (some ⟨blk, off, none⟩) (Go.Lib.compactUpTo zs.toArray zs.length).length cap) ∧ Hid (Keeps (fun q => q = blk) w w' ∧ ∀ (j : Nat) (x : Int), (Go.Lib.compactUpTo zs.toArray zs.length)[j]? = some x → w'.cell? ⟨blk, off + j, none⟩ = some (.int .i64 x)) := by
  refine (Any.slices_Compact_int_arr compactLays blk off cap zs.toArray w hH (by simp; omega) (by simpa using hcap)).mono ?_
  rintro e w' ⟨rfl, n, rfl⟩
  have hle : (Go.Lib.compactUpTo zs.toArray zs.length).length ≤ zs.length := by
    unfold Go.Lib.compactUpTo
    rw [List.length_map]
    exact Nat.le_trans (List.length_filter_le _ _) (by simp)
  have hsize : zs.toArray.size = zs.length := by simp
  rw [hsize]
  obtain ⟨d', hd'⟩ : ∃ d', (Go.Lib.compactUpTo zs.toArray zs.length ++ List.replicate (zs.length - (Go.Lib.compactUpTo zs.toArray zs.length).length) 0).toArray = d' := ⟨_, rfl⟩
  rw [hd']
  have hs : d'.size = zs.toArray.size := by rw [← hd']; simp; omega
  refine ⟨rfl, ⟨rfl, rfl, rfl, by rw [Go.Sort.size_putRow]; exact Nat.le_refl _, fun k hk hq => ?_⟩, fun j x hx => ?_⟩
  · show (w.heap.modify blk _)[k]? = w.heap[k]?
    rw [Array.getElem?_modify, if_neg (fun e => hq e.symm)]
  · have hj : j < (Go.Lib.compactUpTo zs.toArray zs.length).length := by
      rcases Nat.lt_or_ge j (Go.Lib.compactUpTo zs.toArray zs.length).length with h | h
      · exact h
      · rw [List.getElem?_eq_none h] at hx; cases hx
    have hh := Go.Sort.holds_putRow (Value.int .i64) (Go.Sort.ahead w n) blk off zs.toArray d' (Go.Sort.holds_ahead _ _ _ _ _ _ hH) hs j (by rw [hs, hsize]; omega)
    rw [hh.1]
    congr 2
    have h2 : d'[j]? = some x := by
      rw [← hd', List.getElem?_toArray, List.getElem?_append_left hj]
      exact hx
    rw [getElem!_def, h2]
end Go.Proofs.Ytfakjhcpaiaekaa
