/-
  The library's sort, its compaction and its clone of rows of texts: their contracts at this program.
-/
import Derived.Test.YtonkfkgbmlcceaaChecked
import Derived.Test.YtonkfkgbmlcceaaKit
import Derived.Test.YtonkfkgbmlcceaaKit2
import Derived.Test.YtonkfkgbmlcceaaNamePlain
import Derived.Shelf.Sort.Plain
import Derived.Shelf.Slices.CompactS
import Derived.Shelf.Slices.Clone
import Derived.Shelf.Slices.In.SortNone
set_option linter.unusedVariables false
set_option linter.unusedSimpArgs false
set_option linter.unnecessarySimpa false
namespace Go.Proofs.Ytonkfkgbmlcceaa
open Go.ChangeShapes Go.WideShapes Go.ChangeAt Go.RowKit Go.Deep
def ssortRen : Go.Shelf.Ren := ⟨fun | 190 => 27 | 125 => 38 | 258 => 37 | 128 => 49 | 129 => 50 | 302 => 41 | 303 => 42 | 304 => 43 | 305 => 44 | 306 => 45 | 307 => 46 | 308 => 39 | 309 => 47 | 310 => 48 | 333 => 52 | 329 => 53 | 330 => 54 | 334 => 55 | 335 => 56 | 336 => 51 | 344 => 57 | n => n, fun | 31 => 24 | 9 => 9 | 3 => 3 | 46 => 51 | 0 => 0 | 51 => 62 | 53 => 64 | 4 => 4 | 183 => 56 | 182 => 55 | 131 => 45 | 5 => 5 | 218 => 65 | 222 => 69 | 228 => 71 | 229 => 72 | n => n, fun | n => n⟩
theorem ssortLays : Go.Proofs.Lays.n190 Try.prog ssortRen := {
  mixed := by kernel_rfl
  f125 := Try.func38.trans (congrArg some (by kernel_rfl))
  f128 := Try.func49.trans (congrArg some (by kernel_rfl))
  f129 := Try.func50.trans (congrArg some (by kernel_rfl))
  f190 := Try.func27.trans (congrArg some (by kernel_rfl))
  f258 := Try.func37.trans (congrArg some (by kernel_rfl))
  f302 := Try.func41.trans (congrArg some (by kernel_rfl))
  f303 := Try.func42.trans (congrArg some (by kernel_rfl))
  f304 := Try.func43.trans (congrArg some (by kernel_rfl))
  f305 := Try.func44.trans (congrArg some (by kernel_rfl))
  f306 := Try.func45.trans (congrArg some (by kernel_rfl))
  f307 := Try.func46.trans (congrArg some (by kernel_rfl))
  f308 := Try.func39.trans (congrArg some (by kernel_rfl))
  f309 := Try.func47.trans (congrArg some (by kernel_rfl))
  f310 := Try.func48.trans (congrArg some (by kernel_rfl))
  f329 := Try.func53.trans (congrArg some (by kernel_rfl))
  f330 := Try.func54.trans (congrArg some (by kernel_rfl))
  f333 := Try.func52.trans (congrArg some (by kernel_rfl))
  f334 := Try.func55.trans (congrArg some (by kernel_rfl))
  f335 := Try.func56.trans (congrArg some (by kernel_rfl))
  f336 := Try.func51.trans (congrArg some (by kernel_rfl))
  f344 := Try.func57.trans (congrArg some (by kernel_rfl))
  t0 := Try.underlying0
  a0 := Try.isAgg0
  z0 := Try.sizeOf0
  v0 := Try.zeroValue0
  t3 := Try.underlying3
  a3 := Try.isAgg3
  z3 := Try.sizeOf3
  v3 := Try.zeroValue3
  t4 := Try.underlying4
  a4 := Try.isAgg4
  z4 := Try.sizeOf4
  v4 := Try.zeroValue4
  t5 := Try.underlying5
  a5 := Try.isAgg5
  z5 := Try.sizeOf5
  v5 := Try.zeroValue5
  t9 := Try.underlying9
  a9 := Try.isAgg9
  z9 := Try.sizeOf9
  v9 := Try.zeroValue9
  t31 := Try.underlying24
  a31 := Try.isAgg24
  z31 := Try.sizeOf24
  v31 := Try.zeroValue24
  t46 := Try.underlying51
  a46 := Try.isAgg51
  z46 := Try.sizeOf51
  v46 := Try.zeroValue51
  t51 := Try.underlying62
  a51 := Try.isAgg62
  z51 := Try.sizeOf62
  v51 := Try.zeroValue62
  t53 := Try.underlying64
  a53 := Try.isAgg64
  z53 := Try.sizeOf64
  v53 := Try.zeroValue64
  t131 := Try.underlying45
  a131 := Try.isAgg45
  z131 := Try.sizeOf45
  v131 := Try.zeroValue45
  t182 := Try.underlying55
  a182 := Try.isAgg55
  z182 := Try.sizeOf55
  v182 := Try.zeroValue55
  t183 := Try.underlying56
  a183 := Try.isAgg56
  z183 := Try.sizeOf56
  v183 := Try.zeroValue56
  t218 := Try.underlying65
  a218 := Try.isAgg65
  z218 := Try.sizeOf65
  v218 := Try.zeroValue65
  t222 := Try.underlying69
  a222 := Try.isAgg69
  z222 := Try.sizeOf69
  v222 := Try.zeroValue69
  t228 := Try.underlying71
  a228 := Try.isAgg71
  z228 := Try.sizeOf71
  v228 := Try.zeroValue71
  t229 := Try.underlying72
  a229 := Try.isAgg72
  z229 := Try.sizeOf72
  v229 := Try.zeroValue72 }
def scompactRen : Go.Shelf.Ren := ⟨fun | 194 => 28 | n => n, fun | 31 => 24 | 9 => 9 | 3 => 3 | 4 => 4 | 0 => 0 | n => n, fun | n => n⟩
theorem scompactLays : Go.Proofs.Lays.n194 Try.prog scompactRen := {
  mixed := by kernel_rfl
  f194 := Try.func28.trans (congrArg some (by kernel_rfl))
  t0 := Try.underlying0
  a0 := Try.isAgg0
  z0 := Try.sizeOf0
  v0 := Try.zeroValue0
  t3 := Try.underlying3
  a3 := Try.isAgg3
  z3 := Try.sizeOf3
  v3 := Try.zeroValue3
  t4 := Try.underlying4
  a4 := Try.isAgg4
  z4 := Try.sizeOf4
  v4 := Try.zeroValue4
  t9 := Try.underlying9
  a9 := Try.isAgg9
  z9 := Try.sizeOf9
  v9 := Try.zeroValue9
  t31 := Try.underlying24
  a31 := Try.isAgg24
  z31 := Try.sizeOf24
  v31 := Try.zeroValue24 }
def scloneRen : Go.Shelf.Ren := ⟨fun | 16 => 26 | n => n, fun | 24 => 24 | 9 => 9 | 4 => 4 | n => n, fun | n => n⟩
theorem scloneLays : Go.Proofs.Lays2.n16 Try.prog scloneRen := {
  mixed := by kernel_rfl
  f16 := Try.func26.trans (congrArg some (by kernel_rfl))
  t4 := Try.underlying4
  a4 := Try.isAgg4
  z4 := Try.sizeOf4
  v4 := Try.zeroValue4
  t9 := Try.underlying9
  a9 := Try.isAgg9
  z9 := Try.sizeOf9
  v9 := Try.zeroValue9
  t24 := Try.underlying24
  a24 := Try.isAgg24
  z24 := Try.sizeOf24
  v24 := Try.zeroValue24
  i9 := by kernel_rfl }
/-- What the sort leaves. -/
theorem ssort_spec {w : World} {blk off cap : Nat} {zs : List Str} (hH : Go.Sort.Holds encStr w blk off zs.toArray) (hblk : blk < w.heap.size) (hsz : zs.length ≤ 1000000) :
    Calls Try.prog 27 #[.slice (some ⟨blk, off, none⟩) zs.length cap] w fun e w' => e = .returned (.tuple #[]) ∧ Hid (Keeps (fun q => q = blk) w w' ∧ Go.Sort.Holds encStr w' blk off (zs.mergeSort fun x y => decide (x ≤ y)).toArray) := by
  refine (Any.slices_Sort_string ssortLays blk off cap zs w hH hblk (by omega)).mono ?_
  rintro e w' ⟨rfl, n, os, rfl⟩
  have hs : (zs.mergeSort fun x y => decide (x ≤ y)).toArray.size = zs.toArray.size := by simp
  have hb2 : blk < (Go.Sort.putRow encStr (Go.Sort.ahead w n) blk off (zs.mergeSort fun x y => decide (x ≤ y)).toArray).heap.size := by
    rw [Go.Sort.size_putRow]; exact hblk
  refine ⟨rfl, ⟨rfl, rfl, rfl, by rw [Go.Sort.size_grow, Go.Sort.size_putRow]; show w.heap.size ≤ w.heap.size + _; omega, fun k hk hq => ?_⟩, Go.Sort.holds_grow _ _ _ _ _ _ hb2 (Go.Sort.holds_putRow _ _ _ _ zs.toArray _ (Go.Sort.holds_ahead _ _ _ _ _ _ hH) hs)⟩
  · rw [Go.Sort.heap_grow_old _ _ (by rw [Go.Sort.size_putRow]; exact hk)]
    show (w.heap.modify blk _)[k]? = w.heap[k]?
    rw [Array.getElem?_modify, if_neg (fun e => hq e.symm)]
theorem scompact_spec {w : World} {blk off cap : Nat} {zs : List Str} (hH : Go.Sort.Holds encStr w blk off zs.toArray) (hcap : zs.length ≤ cap) (hblk : blk < w.heap.size) (hsz : zs.length ≤ 1000000) :
    Calls Try.prog 28 #[.slice (some ⟨blk, off, none⟩) zs.length cap] w fun e w' => e = .returned (.slice (some ⟨blk, off, none⟩) (Go.Lib.compact zs).length cap) ∧ Hid (Keeps (fun q => q = blk) w w' ∧ ∀ (j : Nat) (x : Str), (Go.Lib.compact zs)[j]? = some x → w'.cell? ⟨blk, off + j, none⟩ = some (encStr x)) := by
  refine (Any.slices_Compact_string scompactLays blk off cap zs w hH (by omega) hcap).mono ?_
  rintro e w' ⟨rfl, n, rfl⟩
  have hle : (Go.Lib.compact zs).length ≤ zs.length := by
    unfold Go.Lib.compact Go.Lib.compactUpTo
    rw [List.length_map]
    exact Nat.le_trans (List.length_filter_le _ _) (by simp)
  have hsize : zs.toArray.size = zs.length := by simp
  obtain ⟨d', hd'⟩ : ∃ d', (Go.Lib.compact zs ++ List.replicate (zs.length - (Go.Lib.compact zs).length) []).toArray = d' := ⟨_, rfl⟩
  rw [hd']
  have hs : d'.size = zs.toArray.size := by rw [← hd']; simp; omega
  refine ⟨rfl, ⟨rfl, rfl, rfl, by rw [Go.Sort.size_putRow]; exact Nat.le_refl _, fun k hk hq => ?_⟩, fun j x hx => ?_⟩
  · show (w.heap.modify blk _)[k]? = w.heap[k]?
    rw [Array.getElem?_modify, if_neg (fun e => hq e.symm)]
  · have hj : j < (Go.Lib.compact zs).length := by
      rcases Nat.lt_or_ge j (Go.Lib.compact zs).length with h | h
      · exact h
      · rw [List.getElem?_eq_none h] at hx; cases hx
    have hh := Go.Sort.holds_putRow encStr (Go.Sort.ahead w n) blk off zs.toArray d' (Go.Sort.holds_ahead _ _ _ _ _ _ hH) hs j (by rw [hs, hsize]; omega)
    rw [hh.1]
    congr 2
    have h2 : d'[j]? = some x := by
      rw [← hd', List.getElem?_toArray, List.getElem?_append_left hj]
      exact hx
    rw [getElem!_def, h2]
end Go.Proofs.Ytonkfkgbmlcceaa
