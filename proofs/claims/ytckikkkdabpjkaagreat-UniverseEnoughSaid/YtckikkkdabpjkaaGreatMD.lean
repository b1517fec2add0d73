/-
 The library's sort, its compaction and its clone of rows of texts: their contracts at this program.
-/
import Derived.Test.YtckikkkdabpjkaaGreatChecked
import Derived.Test.YtckikkkdabpjkaaGreatKit
import Derived.Test.YtckikkkdabpjkaaGreatMB
import Derived.Test.YtckikkkdabpjkaaGreatMA
import Derived.Shelf.Sort.Plain
import Derived.Shelf.Slices.CompactS
import Derived.Shelf.Slices.Clone
import Derived.Shelf.Slices.In.SortNone
import Derived.Test.YtckikkkdabpjkaaGreatKitSq
import Derived.WalkLawsBesides
import Derived.Deep.QuietTactic
import Derived.BigQuiet
import Derived.Lib.Hide
import Derived.Deep.LoopGhost
import Derived.Deep.DeepCutAuto
import Derived.Laws.Cover1
import Derived.Laws.Concat
set_option linter.unusedVariables false
set_option linter.unusedSimpArgs false
set_option linter.unnecessarySimpa false
namespace Go.Proofs.YtckikkkdabpjkaaGreat
open Go.ChangeShapes Go.WideShapes Go.ChangeAt Go.RowKit Go.Deep
def ssortRen : Go.Shelf.Ren := ⟨fun | 190 => 116 | 125 => 172 | 258 => 171 | 128 => 203 | 129 => 204 | 302 => 194 | 303 => 195 | 304 => 196 | 305 => 197 | 306 => 198 | 307 => 199 | 308 => 200 | 309 => 201 | 310 => 202 | 333 => 222 | 329 => 223 | 330 => 224 | 334 => 225 | 335 => 226 | 336 => 227 | 344 => 242 | n => n, fun | 31 => 29 | 9 => 9 | 3 => 3 | 46 => 59 | 0 => 0 | 51 => 180 | 53 => 48 | 4 => 4 | 183 => 173 | 182 => 172 | 131 => 160 | 5 => 5 | 218 => 192 | 222 => 196 | 228 => 206 | 229 => 207 | n => n, fun | n => n⟩
theorem ssortLays : Go.Proofs.Lays.n190 Tryz.prog ssortRen := {
 mixed := by kernel_rfl
 f125 := Tryz.func172.trans (congrArg some (by kernel_rfl))
 f128 := Tryz.func203.trans (congrArg some (by kernel_rfl))
 f129 := Tryz.func204.trans (congrArg some (by kernel_rfl))
 f190 := Tryz.func116.trans (congrArg some (by kernel_rfl))
 f258 := Tryz.func171.trans (congrArg some (by kernel_rfl))
 f302 := Tryz.func194.trans (congrArg some (by kernel_rfl))
 f303 := Tryz.func195.trans (congrArg some (by kernel_rfl))
 f304 := Tryz.func196.trans (congrArg some (by kernel_rfl))
 f305 := Tryz.func197.trans (congrArg some (by kernel_rfl))
 f306 := Tryz.func198.trans (congrArg some (by kernel_rfl))
 f307 := Tryz.func199.trans (congrArg some (by kernel_rfl))
 f308 := Tryz.func200.trans (congrArg some (by kernel_rfl))
 f309 := Tryz.func201.trans (congrArg some (by kernel_rfl))
 f310 := Tryz.func202.trans (congrArg some (by kernel_rfl))
 f329 := Tryz.func223.trans (congrArg some (by kernel_rfl))
 f330 := Tryz.func224.trans (congrArg some (by kernel_rfl))
 f333 := Tryz.func222.trans (congrArg some (by kernel_rfl))
 f334 := Tryz.func225.trans (congrArg some (by kernel_rfl))
 f335 := Tryz.func226.trans (congrArg some (by kernel_rfl))
 f336 := Tryz.func227.trans (congrArg some (by kernel_rfl))
 f344 := Tryz.func242.trans (congrArg some (by kernel_rfl))
 t0 := Tryz.underlying0
 a0 := Tryz.isAgg0
 z0 := Tryz.sizeOf0
 v0 := Tryz.zeroValue0
 t3 := Tryz.underlying3
 a3 := Tryz.isAgg3
 z3 := Tryz.sizeOf3
 v3 := Tryz.zeroValue3
 t4 := Tryz.underlying4
 a4 := Tryz.isAgg4
 z4 := Tryz.sizeOf4
 v4 := Tryz.zeroValue4
 t5 := Tryz.underlying5
 a5 := Tryz.isAgg5
 z5 := Tryz.sizeOf5
 v5 := Tryz.zeroValue5
 t9 := Tryz.underlying9
 a9 := Tryz.isAgg9
 z9 := Tryz.sizeOf9
 v9 := Tryz.zeroValue9
 t31 := Tryz.underlying29
 a31 := Tryz.isAgg29
 z31 := Tryz.sizeOf29
 v31 := Tryz.zeroValue29
 t46 := Tryz.underlying59
 a46 := Tryz.isAgg59
 z46 := Tryz.sizeOf59
 v46 := Tryz.zeroValue59
 t51 := Tryz.underlying180
 a51 := Tryz.isAgg180
 z51 := Tryz.sizeOf180
 v51 := Tryz.zeroValue180
 t53 := Tryz.underlying48
 a53 := Tryz.isAgg48
 z53 := Tryz.sizeOf48
 v53 := Tryz.zeroValue48
 t131 := Tryz.underlying160
 a131 := Tryz.isAgg160
 z131 := Tryz.sizeOf160
 v131 := Tryz.zeroValue160
 t182 := Tryz.underlying172
 a182 := Tryz.isAgg172
 z182 := Tryz.sizeOf172
 v182 := Tryz.zeroValue172
 t183 := Tryz.underlying173
 a183 := Tryz.isAgg173
 z183 := Tryz.sizeOf173
 v183 := Tryz.zeroValue173
 t218 := Tryz.underlying192
 a218 := Tryz.isAgg192
 z218 := Tryz.sizeOf192
 v218 := Tryz.zeroValue192
 t222 := Tryz.underlying196
 a222 := Tryz.isAgg196
 z222 := Tryz.sizeOf196
 v222 := Tryz.zeroValue196
 t228 := Tryz.underlying206
 a228 := Tryz.isAgg206
 z228 := Tryz.sizeOf206
 v228 := Tryz.zeroValue206
 t229 := Tryz.underlying207
 a229 := Tryz.isAgg207
 z229 := Tryz.sizeOf207
 v229 := Tryz.zeroValue207 }
def scompactRen : Go.Shelf.Ren := ⟨fun | 194 => 117 | n => n, fun | 31 => 29 | 9 => 9 | 3 => 3 | 4 => 4 | 0 => 0 | n => n, fun | n => n⟩
theorem scompactLays : Go.Proofs.Lays.n194 Tryz.prog scompactRen := {
 mixed := by kernel_rfl
 f194 := Tryz.func117.trans (congrArg some (by kernel_rfl))
 t0 := Tryz.underlying0
 a0 := Tryz.isAgg0
 z0 := Tryz.sizeOf0
 v0 := Tryz.zeroValue0
 t3 := Tryz.underlying3
 a3 := Tryz.isAgg3
 z3 := Tryz.sizeOf3
 v3 := Tryz.zeroValue3
 t4 := Tryz.underlying4
 a4 := Tryz.isAgg4
 z4 := Tryz.sizeOf4
 v4 := Tryz.zeroValue4
 t9 := Tryz.underlying9
 a9 := Tryz.isAgg9
 z9 := Tryz.sizeOf9
 v9 := Tryz.zeroValue9
 t31 := Tryz.underlying29
 a31 := Tryz.isAgg29
 z31 := Tryz.sizeOf29
 v31 := Tryz.zeroValue29 }
def scloneRen : Go.Shelf.Ren := ⟨fun | 16 => 115 | n => n, fun | 24 => 29 | 9 => 9 | 4 => 4 | n => n, fun | n => n⟩
theorem scloneLays : Go.Proofs.Lays2.n16 Tryz.prog scloneRen := {
 mixed := by kernel_rfl
 f16 := Tryz.func115.trans (congrArg some (by kernel_rfl))
 t4 := Tryz.underlying4
 a4 := Tryz.isAgg4
 z4 := Tryz.sizeOf4
 v4 := Tryz.zeroValue4
 t9 := Tryz.underlying9
 a9 := Tryz.isAgg9
 z9 := Tryz.sizeOf9
 v9 := Tryz.zeroValue9
 t24 := Tryz.underlying29
 a24 := Tryz.isAgg29
 z24 := Tryz.sizeOf29
 v24 := Tryz.zeroValue29
 i9 := by kernel_rfl }
/-- What the sort leaves. -/
theorem ssort_spec {w : World} {blk off cap : Nat} {zs : List Str} (hH : Go.Sort.Holds encStr w blk off zs.toArray) (hblk : blk < w.heap.size) (hsz : zs.length ≤ 1000000) :
 Calls Tryz.prog 116 #[.slice (some ⟨blk, off, none⟩) zs.length cap] w fun e w' => e = .returned (.tuple #[]) ∧ Hid (Keeps (fun q => q = blk) w w' ∧ Go.Sort.Holds encStr w' blk off (zs.mergeSort fun x y => decide (x ≤ y)).toArray) := by
 refine (Any.slices_Sort_string ssortLays blk off cap zs w hH hblk (by omega)).mono ?_
 rintro e w' ⟨rfl, n, os, rfl⟩
 have hs : (zs.mergeSort fun x y => decide (x ≤ y)).toArray.size = zs.toArray.size := by simp
 have hb2 : blk < (Go.Sort.putRow encStr (Go.Sort.ahead w n) blk off (zs.mergeSort fun x y => decide (x ≤ y)).toArray).heap.size := by
  rw [Go.Sort.size_putRow]; exact hblk
 refine ⟨rfl, ⟨rfl, rfl, rfl, by rw [Go.Sort.size_grow, Go.Sort.size_putRow]; show w.heap.size ≤ w.heap.size + _; omega, fun k hk hq => ?_⟩, Go.Sort.holds_grow _ _ _ _ _ _ hb2 (Go.Sort.holds_putRow _ _ _ _ zs.toArray _ (Go.Sort.holds_ahead _ _ _ _ _ _ hH) hs)⟩
 ·rw [Go.Sort.heap_grow_old _ _ (by rw [Go.Sort.size_putRow]; exact hk)]
  show (w.heap.modify blk _)[k]? = w.heap[k]?
  rw [Array.getElem?_modify, if_neg (fun e => hq e.symm)]
theorem scompact_spec {w : World} {blk off cap : Nat} {zs : List Str} (hH : Go.Sort.Holds encStr w blk off zs.toArray) (hcap : zs.length ≤ cap) (hblk : blk < w.heap.size) (hsz : zs.length ≤ 1000000) :
 Calls Tryz.prog 117 #[.slice (some ⟨blk, off, none⟩) zs.length cap] w fun e w' => e = .returned (.slice (some ⟨blk, off, none⟩) (Go.Lib.compact zs).length cap) ∧ Hid (Keeps (fun q => q = blk) w w' ∧ ∀ (j : Nat) (x : Str), (Go.Lib.compact zs)[j]? = some x → w'.cell? ⟨blk, off + j, none⟩ = some (encStr x)) := by
 refine (Any.slices_Compact_string scompactLays blk off cap zs w hH (by omega) hcap).mono ?_
 rintro e w' ⟨rfl, n, rfl⟩
 have hle : (Go.Lib.compact zs).length ≤ zs.length := by
  unfold Go.Lib.compact Go.Lib.compactUpTo
  rw [List.length_map]
  exact Nat.le_trans (List.length_filter_le _ _) (by simp)
 have hsize : zs.toArray.size = zs.length := by simp
 obtain ⟨d', hd'⟩ : ∃ d', (Go.Lib.compact zs ++ List.replicate (zs.length - (Go.Lib.compact zs).length) []).toArray = d' := ⟨_, rfl⟩
 rw [hd']
 have hs : d'.size = zs.toArray.size := by rw [← hd']; simp; omega
 refine ⟨rfl, ⟨rfl, rfl, rfl, by rw [Go.Sort.size_putRow]; exact Nat.le_refl _, fun k hk hq => ?_⟩, fun j x hx => ?_⟩
 ·show (w.heap.modify blk _)[k]? = w.heap[k]?
  rw [Array.getElem?_modify, if_neg (fun e => hq e.symm)]
 ·have hj : j < (Go.Lib.compact zs).length := by
   rcases Nat.lt_or_ge j (Go.Lib.compact zs).length with h | h
   ·exact h
   ·rw [List.getElem?_eq_none h] at hx; cases hx
  have hh := Go.Sort.holds_putRow encStr (Go.Sort.ahead w n) blk off zs.toArray d' (Go.Sort.holds_ahead _ _ _ _ _ _ hH) hs j (by rw [hs, hsize]; omega)
  rw [hh.1]
  congr 2
  have h2 : d'[j]? = some x := by
   rw [← hd', List.getElem?_toArray, List.getElem?_append_left hj]
   exact hx
  rw [getElem!_def, h2]
end Go.Proofs.YtckikkkdabpjkaaGreat
/-
 Rows of texts, and tables, in memory; New, Len, At, All.
-/
set_option linter.unusedVariables false
set_option linter.unusedSimpArgs false
set_option linter.unnecessarySimpa false
namespace Go.Proofs.YtckikkkdabpjkaaGreat
open Go.ChangeShapes Go.WideShapes Go.ChangeAt Go.RowKit Go.Deep
theorem sinfo : (Tryz.prog.info? 9).map (fun i => (i.zero, i.size, i.bytes)) = some (some (.string ⟨#[]⟩), 1, 16) := by kernel_rfl
theorem enc_str (s : ByteArray) : Value.string s = encStr s.data.toList := by
 obtain ⟨⟨l⟩⟩ := s
 rfl
/-- A slice that reads as texts. -/
def ReadsS (w : World) (v : Value) (l : List Str) : Prop :=
 ∃ ao cap, v = .slice ao l.length cap ∧ l.length ≤ cap ∧ (0 < l.length → ∃ g off, ao = some ⟨g, off, none⟩ ∧ g < w.heap.size ∧ ∀ (j : Nat) (x : Str), l[j]? = some x → w.cell? ⟨g, off + j, none⟩ = some (encStr x))
theorem ReadsS.keeps {w w' : World} {v : Value} {l : List Str} (h : ReadsS w v l) (hk : KF w w') : ReadsS w' v l := by
 obtain ⟨ao, cap, hv, hle, hr⟩ := h
 refine ⟨ao, cap, hv, hle, fun h0 => ?_⟩
 obtain ⟨g, off, h1, h2, h3⟩ := hr h0
 exact ⟨g, off, h1, Nat.lt_of_lt_of_le h2 hk.size, fun j x hj => (hk.cell (p := ⟨g, off + j, none⟩) h2 (fun x => x)).trans (h3 j x hj)⟩
def sCells (l : List Str) : List Value := l.map encStr
theorem sCells_snoc (l : List Str) (x : Str) : sCells (l ++ [x]) = sCells l ++ [encStr x] := by simp [sCells]
/-- A row of texts of the program's own. -/
def OwnS (base : Nat) (W : World) (v : Value) (l : List Str) : Prop := W.ownsRow base 9 1 v l.length (sCells l)
theorem OwnS.reads {base : Nat} {W : World} {v : Value} {l : List Str} (h : OwnS base W v l) : ReadsS W v l := by
 obtain ⟨ao, cap, rfl, hle, _, hno, hc⟩ := own_form h
 refine ⟨ao, cap, rfl, hle, fun h0 => ?_⟩
 cases ao with
 | none => have := (hno rfl).1; omega
 | some b =>
  obtain ⟨q1, q2, q3, q4, q5⟩ := hc b rfl
  obtain ⟨b, o, sp⟩ := b
  simp only at q1 q2 q3 q4 q5
  subst q1 q2
  exact ⟨b, 0, rfl, q3, fun j x hj => by rw [Nat.zero_add]; exact q5 j _ (by unfold sCells; rw [List.getElem?_map, hj]; rfl)⟩
theorem OwnS.keeps {base : Nat} {W W' : World} {v : Value} {l : List Str} (h : OwnS base W v l) (hk : KF W W') : OwnS base W' v l := ownsRow_keeps' h hk (fun _ _ x => x)
theorem sholds_own {w : World} {base g cap : Nat} {l : List Str} (h : w.ownsRow base 9 1 (.slice (some ⟨g, 0, none⟩) l.length cap) l.length (sCells l)) : Go.Sort.Holds encStr w g 0 l.toArray := by
 intro j hj
 have hj' : j < l.length := by simpa using hj
 obtain ⟨hl, h | ⟨g', cap', cur, hv, _, hh, _, _, hs, ht⟩⟩ := h
 ·cases h.1
 ·simp only [Value.slice.injEq, Option.some.injEq, Addr.mk.injEq, and_true] at hv
  obtain ⟨rfl, _, _⟩ := hv
  rw [Nat.zero_add]
  refine ⟨?_, free_of_heap hh j⟩
  rw [cell_of_heap hh]
  have e : (cur.toList.take (l.length * 1))[j]? = (sCells l)[j]? := by rw [ht]
  unfold sCells at e
  rw [List.getElem?_take_of_lt (by omega), Array.getElem?_toList, List.getElem?_map, List.getElem?_eq_getElem hj'] at e
  rw [e, getElem!_pos l.toArray j hj]
  simp
/-- A table of texts. -/
def Tab (W : World) (p : Nat) (L : List Str) : Prop := ∃ v, W.cell? ⟨p, 0, none⟩ = some v ∧ p < W.heap.size ∧ ReadsS W v L
theorem Tab.keeps {W W' : World} {p : Nat} {L : List Str} (h : Tab W p L) (hk : KF W W') : Tab W' p L := by
 obtain ⟨v, h1, h2, h3⟩ := h
 exact ⟨v, (hk.cell (p := ⟨p, 0, none⟩) h2 (fun x => x)).trans h1, Nat.lt_of_lt_of_le h2 hk.size, h3.keeps hk⟩
set_option maxRecDepth 100000
set_option maxHeartbeats 3200000
/-- The clone of a row. -/
theorem sclone_spec {W : World} {v : Value} {l : List Str} (h : ReadsS W v l) (hl : l.length ≤ 100000) :
 Calls Tryz.prog 115 #[v] W fun e W' => ∃ v', e = .returned v' ∧ Hid (KF W W' ∧ OwnS W.heap.size W' v' l) := by
 obtain ⟨ao, cap, rfl, hle, hr⟩ := h
 rcases Nat.eq_zero_or_pos l.length with h0 | h0
 ·have hl0 := List.eq_nil_of_length_eq_zero h0
  subst hl0
  cases ao with
  | none =>
   refine (Any.slices_Clone_string_nil scloneLays 0 cap W).mono ?_
   rintro e W' ⟨rfl, rfl⟩
   exact ⟨_, rfl, Keeps.refl _ _, World.ownsRow_nil _ _ _ _⟩
  | some a =>
   refine (Any.slices_Clone_string_zero scloneLays a cap W).mono ?_
   rintro e W' ⟨v', rfl, ho, _, hb⟩
   exact ⟨_, rfl, Keeps.of_below hb (Nat.le_refl _), ho⟩
 ·obtain ⟨g, off, rfl, hg, hc⟩ := hr h0
  refine (Any.slices_Clone_string scloneLays g off l.length cap (l.map fun s => (⟨s.toArray⟩ : ByteArray)) W (by simp) (by omega) (fun j hj => ?_)).mono ?_
  ·have hj' : j < l.length := by simpa using hj
   have e : (l.map fun s => (⟨s.toArray⟩ : ByteArray)).getD j ByteArray.empty = ⟨l[j].toArray⟩ := by
    rw [List.getD_eq_getElem?_getD, List.getElem?_map, List.getElem?_eq_getElem hj']
    rfl
   rw [hc j _ (List.getElem?_eq_getElem hj'), e]
  ·rintro e W' ⟨v', rfl, ho, _, hb⟩
   refine ⟨_, rfl, Keeps.of_below hb (Nat.le_refl _), ?_⟩
   have e : ((l.map fun s => (⟨s.toArray⟩ : ByteArray)).take l.length).map Value.string = sCells l := by
    rw [List.take_of_length_le (by simp), List.map_map]
    rfl
   rw [e] at ho
   exact ho
theorem names_new {W : World} {v : Value} {l : List Str} (h : ReadsS W v l) (hl : l.length ≤ 100000) :
 Calls Tryz.prog 66 #[v] W fun e W' => ∃ p, e = .returned (.pointer (some ⟨p, 0, none⟩)) ∧ Hid (KF W W' ∧ Tab W' p (tabL l)) := by
 have HC := Lib.hid (sclone_spec h hl)
 clear h
 go_enter Tryz.func66, Tryz.ntmps66
 go_wp2_with fail
 refine HC.out.mono ?_
 rintro e w1 ⟨v1, rfl, h1⟩
 obtain ⟨ao, cap, hv, hle, _, hno, hb⟩ := own_form h1.out.2
 have HK1 := Lib.hid h1.out.1
 rcases Nat.eq_zero_or_pos l.length with h0 | h0
 ·have hl0 := List.eq_nil_of_length_eq_zero h0
  rw [h0] at hv
  subst hv
  have HS : Hid (Calls Tryz.prog 116 #[.slice ao 0 cap] w1 fun e w' => e = .returned (.tuple #[]) ∧ w' = w1) := Any.slices_Sort_string_none ssortLays ao cap w1
  have HCO : Hid (Calls Tryz.prog 117 #[.slice ao 0 cap] w1 fun e w' => e = .returned (.slice ao 0 cap) ∧ w' = w1) := Any.slices_Compact_string_empty scompactLays ao cap w1
  have HT : Hid (KF W (w1.alloc (.cells #[.slice ao 0 cap] 124)) ∧ Tab (w1.alloc (.cells #[.slice ao 0 cap] 124)) w1.heap.size (tabL l)) := by
   have ha := (MapKept.heap_alloc w1 (.cells #[.slice ao 0 cap] 124)).1
   have htl : tabL l = [] := List.eq_nil_of_length_eq_zero (by have := tab_len l; omega)
   refine ⟨HK1.out.trans ((Keeps.refl _ _).alloc _), _, cell_of_heap ha 0, lt_of_heap ha, ao, cap, by rw [htl]; rfl, by rw [htl]; exact Nat.zero_le _, fun h => absurd h (by rw [htl]; decide)⟩
  clear HC h1 hb hno hl0
  go_wp2_with fail
  refine HS.out.mono ?_
  rintro e w2 ⟨rfl, rfl⟩
  go_wp2_with fail
  refine HCO.out.mono ?_
  rintro e w3 ⟨rfl, rfl⟩
  go_wp2_with fail
  go_ret
  exact ⟨_, rfl, HT.out⟩
 ·obtain ⟨g, rfl⟩ : ∃ g, ao = some ⟨g, 0, none⟩ := by
   cases ao with
   | none => have := (hno rfl).1; omega
   | some a =>
    obtain ⟨q1, q2, _⟩ := hb a rfl
    obtain ⟨x, y, z⟩ := a
    simp only at q1 q2
    subst q1 q2
    exact ⟨x, rfl⟩
  have hgb := own_block h1.out.2 g (by rw [hv]; rfl)
  have hgl := own_lt h1.out.2 g (by rw [hv]; rfl)
  have hown : w1.ownsRow W.heap.size 9 1 v1 l.length (sCells l) := h1.out.2
  rw [hv] at hown
  have HSO := Lib.hid (ssort_spec (cap := cap) (sholds_own hown) hgl (by omega))
  subst hv
  have HGW : Hid (W.heap.size ≤ g) := hgb
  clear hown hb hno HC h1
  go_wp2_with fail
  refine HSO.out.mono ?_
  rintro e w2 ⟨rfl, h2⟩
  obtain ⟨m, hm⟩ : ∃ m, (l.mergeSort fun x y => decide (x ≤ y)) = m := ⟨_, rfl⟩
  have hml : m.length = l.length := by rw [← hm]; simp
  have HH2 := h2.out.2
  rw [hm] at HH2
  have HCO0 := scompact_spec (cap := cap) HH2 (by omega) (Nat.lt_of_lt_of_le hgl h2.out.1.size) (by omega)
  rw [hml] at HCO0
  have hsup : tabL l = Go.Lib.compact m := by unfold tabL; rw [hm]
  rw [← hsup] at HCO0
  have HCO := Lib.hid HCO0
  have HK2 := Lib.hid h2.out.1
  clear HSO h2 HH2 HCO0 hm hml hsup
  go_wp2_with fail
  refine HCO.out.mono ?_
  rintro e w3 ⟨rfl, h3⟩
  have hsl := tab_len l
  have HT : Hid (KF W (w3.alloc (.cells #[.slice (some ⟨g, 0, none⟩) (tabL l).length cap] 124)) ∧ Tab (w3.alloc (.cells #[.slice (some ⟨g, 0, none⟩) (tabL l).length cap] 124)) w3.heap.size (tabL l)) := by
   have ha := (MapKept.heap_alloc w3 (.cells #[.slice (some ⟨g, 0, none⟩) (tabL l).length cap] 124)).1
   have kk : Keeps (fun q => q = g) w1 w3 := HK2.out.trans h3.out.1
   have k3 : KF w3 (w3.alloc (.cells #[.slice (some ⟨g, 0, none⟩) (tabL l).length cap] 124)) := (Keeps.refl _ _).alloc _
   refine ⟨(HK1.out.trans_new kk (fun q hq e => by have h1 := HGW.out; omega)).trans k3, _, cell_of_heap ha 0, lt_of_heap ha, some ⟨g, 0, none⟩, cap, rfl, by omega, fun h0 => ⟨g, 0, rfl, Nat.lt_of_lt_of_le hgl (Nat.le_trans kk.size k3.size), fun j x hj => ?_⟩⟩
   exact (k3.cell (p := ⟨g, 0 + j, none⟩) (Nat.lt_of_lt_of_le hgl kk.size) (fun x => x)).trans (h3.out.2 j x hj)
  clear HCO h3 HK2 HK1 HGW
  go_wp2_with fail
  go_ret
  exact ⟨_, rfl, HT.out⟩
end Go.Proofs.YtckikkkdabpjkaaGreat
