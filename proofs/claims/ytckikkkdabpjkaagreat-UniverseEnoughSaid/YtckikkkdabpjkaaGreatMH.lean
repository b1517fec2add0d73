/-
 The library's SortFunc of rows of statements: its contract at this program.
-/
import Derived.Test.YtckikkkdabpjkaaGreatMC
import Derived.Shelf.SlSortCmp.NoneTotal
import Derived.Test.YtckikkkdabpjkaaGreatKitSq
import Derived.Test.YtckikkkdabpjkaaGreatMAA
import Derived.Test.YtckikkkdabpjkaaGreatMG
import Derived.Test.YtckikkkdabpjkaaGreatCmpPlain
import Derived.Deep.LoopGhost
import Derived.BigQuiet
import Derived.Deep.QuietTactic
import Derived.WalkSpells
import Derived.Test.YtckikkkdabpjkaaGreatCompM
set_option linter.unusedVariables false
set_option linter.unusedSimpArgs false
set_option linter.unnecessarySimpa false
namespace Go.Proofs.YtckikkkdabpjkaaGreat
open Go.ChangeShapes Go.WideShapes Go.ChangeAt Go.RowKit Go.Deep Go.Shelf
def srtMRen : Go.Shelf.Ren := ⟨fun | 6 => 175 | 15 => 172 | 14 => 206 | 28 => 203 | 29 => 204 | 20 => 228 | 21 => 229 | 22 => 230 | 23 => 231 | 24 => 232 | 25 => 233 | 26 => 234 | 27 => 235 | 46 => 243 | 47 => 223 | 48 => 224 | 49 => 244 | 50 => 245 | 57 => 247 | n => n, fun | 22 => 22 | 24 => 38 | 25 => 150 | 3 => 3 | 39 => 59 | 0 => 0 | 53 => 180 | 55 => 48 | 4 => 4 | 46 => 173 | 45 => 172 | 50 => 160 | 5 => 5 | 9 => 9 | 66 => 192 | 70 => 196 | 76 => 206 | 77 => 207 | n => n, fun | n => n⟩
theorem srtMLays : Go.Proofs.SlLaysF0.n6 Tryz.prog srtMRen := {
 mixed := by kernel_rfl
 f6 := ⟨Tryz.f175.name, by decide, Tryz.func175.trans (congrArg some (by kernel_rfl))⟩
 f14 := ⟨Tryz.f206.name, by decide, Tryz.func206.trans (congrArg some (by kernel_rfl))⟩
 f15 := Tryz.func172.trans (congrArg some (by kernel_rfl))
 f20 := ⟨Tryz.f228.name, by decide, Tryz.func228.trans (congrArg some (by kernel_rfl))⟩
 f21 := ⟨Tryz.f229.name, by decide, Tryz.func229.trans (congrArg some (by kernel_rfl))⟩
 f22 := ⟨Tryz.f230.name, by decide, Tryz.func230.trans (congrArg some (by kernel_rfl))⟩
 f23 := ⟨Tryz.f231.name, by decide, Tryz.func231.trans (congrArg some (by kernel_rfl))⟩
 f24 := ⟨Tryz.f232.name, by decide, Tryz.func232.trans (congrArg some (by kernel_rfl))⟩
 f25 := ⟨Tryz.f233.name, by decide, Tryz.func233.trans (congrArg some (by kernel_rfl))⟩
 f26 := ⟨Tryz.f234.name, by decide, Tryz.func234.trans (congrArg some (by kernel_rfl))⟩
 f27 := ⟨Tryz.f235.name, by decide, Tryz.func235.trans (congrArg some (by kernel_rfl))⟩
 f28 := Tryz.func203.trans (congrArg some (by kernel_rfl))
 f29 := Tryz.func204.trans (congrArg some (by kernel_rfl))
 f46 := ⟨Tryz.f243.name, by decide, Tryz.func243.trans (congrArg some (by kernel_rfl))⟩
 f47 := Tryz.func223.trans (congrArg some (by kernel_rfl))
 f48 := Tryz.func224.trans (congrArg some (by kernel_rfl))
 f49 := ⟨Tryz.f244.name, by decide, Tryz.func244.trans (congrArg some (by kernel_rfl))⟩
 f50 := ⟨Tryz.f245.name, by decide, Tryz.func245.trans (congrArg some (by kernel_rfl))⟩
 f57 := ⟨Tryz.f247.name, by decide, Tryz.func247.trans (congrArg some (by kernel_rfl))⟩
 t0 := Tryz.underlying0
 a0 := Tryz.isAgg0
 z0 := Tryz.sizeOf0
 v0 := Tryz.zeroValue0
 t3 := Tryz.underlying3
 a3 := Tryz.isAgg3
 z3 := Tryz.sizeOf3
 v3 := Tryz.zeroValue3
 t4 := Tryz.underlying4
 a4 := Tryz.isAgg4
 z4 := Tryz.sizeOf4
 v4 := Tryz.zeroValue4
 t5 := Tryz.underlying5
 a5 := Tryz.isAgg5
 z5 := Tryz.sizeOf5
 v5 := Tryz.zeroValue5
 t9 := Tryz.underlying9
 a9 := Tryz.isAgg9
 z9 := Tryz.sizeOf9
 v9 := Tryz.zeroValue9
 t22 := Tryz.underlying22
 a22 := Tryz.isAgg22
 z22 := Tryz.sizeOf22
 v22 := Tryz.zeroValue22
 t25 := Tryz.underlying150
 a25 := Tryz.isAgg150
 z25 := Tryz.sizeOf150
 v25 := Tryz.zeroValue150
 t39 := Tryz.underlying59
 a39 := Tryz.isAgg59
 z39 := Tryz.sizeOf59
 v39 := Tryz.zeroValue59
 t45 := Tryz.underlying172
 a45 := Tryz.isAgg172
 z45 := Tryz.sizeOf172
 v45 := Tryz.zeroValue172
 t46 := Tryz.underlying173
 a46 := Tryz.isAgg173
 z46 := Tryz.sizeOf173
 v46 := Tryz.zeroValue173
 t50 := Tryz.underlying160
 a50 := Tryz.isAgg160
 z50 := Tryz.sizeOf160
 v50 := Tryz.zeroValue160
 t53 := Tryz.underlying180
 a53 := Tryz.isAgg180
 z53 := Tryz.sizeOf180
 v53 := Tryz.zeroValue180
 t55 := Tryz.underlying48
 a55 := Tryz.isAgg48
 z55 := Tryz.sizeOf48
 v55 := Tryz.zeroValue48
 t66 := Tryz.underlying192
 a66 := Tryz.isAgg192
 z66 := Tryz.sizeOf192
 v66 := Tryz.zeroValue192
 t70 := Tryz.underlying196
 a70 := Tryz.isAgg196
 z70 := Tryz.sizeOf196
 v70 := Tryz.zeroValue196
 t76 := Tryz.underlying206
 a76 := Tryz.isAgg206
 z76 := Tryz.sizeOf206
 v76 := Tryz.zeroValue206
 t77 := Tryz.underlying207
 a77 := Tryz.isAgg207
 z77 := Tryz.sizeOf207
 v77 := Tryz.zeroValue207 }
end Go.Proofs.YtckikkkdabpjkaaGreat
/-
 The library's SortFunc of rows of roles: its contract at this program.
-/
set_option linter.unusedVariables false
set_option linter.unusedSimpArgs false
set_option linter.unnecessarySimpa false
namespace Go.Proofs.YtckikkkdabpjkaaGreat
open Go.ChangeShapes Go.WideShapes Go.ChangeAt Go.RowKit Go.Deep Go.Shelf
def srtRRen : Go.Shelf.Ren := ⟨fun | 6 => 164 | 15 => 172 | 14 => 190 | 28 => 203 | 29 => 204 | 20 => 214 | 21 => 215 | 22 => 216 | 23 => 217 | 24 => 218 | 25 => 219 | 26 => 220 | 27 => 221 | 46 => 239 | 47 => 223 | 48 => 224 | 49 => 240 | 50 => 241 | 57 => 246 | n => n, fun | 22 => 23 | 24 => 28 | 25 => 154 | 3 => 3 | 39 => 59 | 0 => 0 | 53 => 180 | 55 => 48 | 4 => 4 | 46 => 173 | 45 => 172 | 50 => 160 | 5 => 5 | 9 => 9 | 66 => 192 | 70 => 196 | 76 => 206 | 77 => 207 | n => n, fun | n => n⟩
theorem srtRLays : Go.Proofs.SlLaysF0.n6 Tryz.prog srtRRen := {
 mixed := by kernel_rfl
 f6 := ⟨Tryz.f164.name, by decide, Tryz.func164.trans (congrArg some (by kernel_rfl))⟩
 f14 := ⟨Tryz.f190.name, by decide, Tryz.func190.trans (congrArg some (by kernel_rfl))⟩
 f15 := Tryz.func172.trans (congrArg some (by kernel_rfl))
 f20 := ⟨Tryz.f214.name, by decide, Tryz.func214.trans (congrArg some (by kernel_rfl))⟩
 f21 := ⟨Tryz.f215.name, by decide, Tryz.func215.trans (congrArg some (by kernel_rfl))⟩
 f22 := ⟨Tryz.f216.name, by decide, Tryz.func216.trans (congrArg some (by kernel_rfl))⟩
 f23 := ⟨Tryz.f217.name, by decide, Tryz.func217.trans (congrArg some (by kernel_rfl))⟩
 f24 := ⟨Tryz.f218.name, by decide, Tryz.func218.trans (congrArg some (by kernel_rfl))⟩
 f25 := ⟨Tryz.f219.name, by decide, Tryz.func219.trans (congrArg some (by kernel_rfl))⟩
 f26 := ⟨Tryz.f220.name, by decide, Tryz.func220.trans (congrArg some (by kernel_rfl))⟩
 f27 := ⟨Tryz.f221.name, by decide, Tryz.func221.trans (congrArg some (by kernel_rfl))⟩
 f28 := Tryz.func203.trans (congrArg some (by kernel_rfl))
 f29 := Tryz.func204.trans (congrArg some (by kernel_rfl))
 f46 := ⟨Tryz.f239.name, by decide, Tryz.func239.trans (congrArg some (by kernel_rfl))⟩
 f47 := Tryz.func223.trans (congrArg some (by kernel_rfl))
 f48 := Tryz.func224.trans (congrArg some (by kernel_rfl))
 f49 := ⟨Tryz.f240.name, by decide, Tryz.func240.trans (congrArg some (by kernel_rfl))⟩
 f50 := ⟨Tryz.f241.name, by decide, Tryz.func241.trans (congrArg some (by kernel_rfl))⟩
 f57 := ⟨Tryz.f246.name, by decide, Tryz.func246.trans (congrArg some (by kernel_rfl))⟩
 t0 := Tryz.underlying0
 a0 := Tryz.isAgg0
 z0 := Tryz.sizeOf0
 v0 := Tryz.zeroValue0
 t3 := Tryz.underlying3
 a3 := Tryz.isAgg3
 z3 := Tryz.sizeOf3
 v3 := Tryz.zeroValue3
 t4 := Tryz.underlying4
 a4 := Tryz.isAgg4
 z4 := Tryz.sizeOf4
 v4 := Tryz.zeroValue4
 t5 := Tryz.underlying5
 a5 := Tryz.isAgg5
 z5 := Tryz.sizeOf5
 v5 := Tryz.zeroValue5
 t9 := Tryz.underlying9
 a9 := Tryz.isAgg9
 z9 := Tryz.sizeOf9
 v9 := Tryz.zeroValue9
 t22 := Tryz.underlying23
 a22 := Tryz.isAgg23
 z22 := Tryz.sizeOf23
 v22 := Tryz.zeroValue23
 t25 := Tryz.underlying154
 a25 := Tryz.isAgg154
 z25 := Tryz.sizeOf154
 v25 := Tryz.zeroValue154
 t39 := Tryz.underlying59
 a39 := Tryz.isAgg59
 z39 := Tryz.sizeOf59
 v39 := Tryz.zeroValue59
 t45 := Tryz.underlying172
 a45 := Tryz.isAgg172
 z45 := Tryz.sizeOf172
 v45 := Tryz.zeroValue172
 t46 := Tryz.underlying173
 a46 := Tryz.isAgg173
 z46 := Tryz.sizeOf173
 v46 := Tryz.zeroValue173
 t50 := Tryz.underlying160
 a50 := Tryz.isAgg160
 z50 := Tryz.sizeOf160
 v50 := Tryz.zeroValue160
 t53 := Tryz.underlying180
 a53 := Tryz.isAgg180
 z53 := Tryz.sizeOf180
 v53 := Tryz.zeroValue180
 t55 := Tryz.underlying48
 a55 := Tryz.isAgg48
 z55 := Tryz.sizeOf48
 v55 := Tryz.zeroValue48
 t66 := Tryz.underlying192
 a66 := Tryz.isAgg192
 z66 := Tryz.sizeOf192
 v66 := Tryz.zeroValue192
 t70 := Tryz.underlying196
 a70 := Tryz.isAgg196
 z70 := Tryz.sizeOf196
 v70 := Tryz.zeroValue196
 t76 := Tryz.underlying206
 a76 := Tryz.isAgg206
 z76 := Tryz.sizeOf206
 v76 := Tryz.zeroValue206
 t77 := Tryz.underlying207
 a77 := Tryz.isAgg207
 z77 := Tryz.sizeOf207
 v77 := Tryz.zeroValue207 }
end Go.Proofs.YtckikkkdabpjkaaGreat
/-
 The closure by which statements are sorted.
-/
set_option linter.unusedVariables false
set_option linter.unusedSimpArgs false
set_option linter.unnecessarySimpa false
namespace Go.Proofs.YtckikkkdabpjkaaGreat
open Go.ChangeShapes Go.WideShapes Go.ChangeAt Go.RowKit Go.Deep
section
variable {W : World}
set_option maxRecDepth 100000
set_option maxHeartbeats 3200000
theorem sclos_grw (a b : Stm) : Calls Tryz.prog 176 #[stmV a, stmV b] W fun e W' => e = .returned (.int .i64 (cmpO stmLt a b)) ∧ Hid (Grw W W') := by
 have HO : Hid (∀ W : World, Calls Tryz.prog 159 #[stmV a, stmV b] W fun e W' => e = .returned (.int .i64 (cmpO stmLt a b)) ∧ Hid (Grw W W')) := fun W => sOrder_grw a b
 obtain ⟨c, hc⟩ : ∃ c, cmpO stmLt a b = c := ⟨_, rfl⟩
 rw [hc] at HO ⊢
 clear hc
 obtain ⟨⟨xh1, xh2⟩, xk, xo, ⟨xa1, xa2⟩, ⟨xb1, xb2⟩, xi⟩ := a
 obtain ⟨⟨yh1, yh2⟩, yk, yo, ⟨ya1, ya2⟩, ⟨yb1, yb2⟩, yi⟩ := b
 have HK : Hid (∀ o o2 : Obj, Grw W ((W.alloc o).alloc o2)) := fun o o2 => ((Grw.refl _).alloc _).alloc _
 unfold stmV at *
 go_enter Tryz.func176, Tryz.ntmps176
 go_wp2_with fail
 refine (HO.out _).mono ?_
 rintro e w1 ⟨rfl, h1⟩
 have HE : Hid (Grw W w1) := (HK.out _ _).trans h1.out
 clear HO HK h1
 go_wp2_with fail
 go_ret
 exact ⟨rfl, HE⟩
theorem rclos_grw (a b : Rol) : Calls Tryz.prog 165 #[rolV2 a, rolV2 b] W fun e W' => e = .returned (.int .i64 (cmpO rolLt a b)) ∧ Hid (Grw W W') := by
 have H1 : Hid (∀ W : World, Calls Tryz.prog 166 #[rolV2 a, rolV2 b] W fun e W' => e = .returned (.bool (decide (rolLt a b))) ∧ Hid (Grw W W')) := fun W => sless_grw a b
 have H2 : Hid (∀ W : World, Calls Tryz.prog 166 #[rolV2 b, rolV2 a] W fun e W' => e = .returned (.bool (decide (rolLt b a))) ∧ Hid (Grw W W')) := fun W => sless_grw b a
 obtain ⟨a1, a2⟩ := a
 obtain ⟨b1, b2⟩ := b
 obtain ⟨WA, hWA⟩ : ∃ WA, W.alloc (bR a1 a2) = WA := ⟨_, rfl⟩
 have hal := (MapKept.heap_alloc W (bR a1 a2)).1
 have hkA : Grw W WA := by rw [← hWA]; exact (Grw.refl _).alloc _
 rw [hWA] at hal
 obtain ⟨WB, hWB⟩ : ∃ WB, WA.alloc (bR b1 b2) = WB := ⟨_, rfl⟩
 have hal2 := (MapKept.heap_alloc WA (bR b1 b2)).1
 have hkB : Grw WA WB := by rw [← hWB]; exact (Grw.refl _).alloc _
 rw [hWB] at hal2
 have halB := (hkB.block _ (lt_of_heap hal) (fun x => x)).trans hal
 have HA := Lib.hid halB
 have HB := Lib.hid hal2
 have HKB : Hid (Grw W WB) := hkA.trans hkB
 have c0 := cell_of_heap halB 0
 have c1 := cell_of_heap halB 1
 have d0 := cell_of_heap hal2 0
 have d1 := cell_of_heap hal2 1
 simp only [List.getElem?_toArray, List.getElem?_cons_zero, List.getElem?_cons_succ] at c0 c1 d0 d1
 clear hal halB hal2 hkA hkB
 by_cases h1 : rolLt (a1, a2) (b1, b2)
 ·have hc : cmpO rolLt (a1, a2) (b1, b2) = -1 := if_pos h1
  rw [hc]
  rw [decide_eq_true h1] at H1
  clear hc h1 H2
  unfold rolV2 at *
  go_enter Tryz.func165, Tryz.ntmps165
  go_wp2_with fail
  refine (H1.out _).mono ?_
  rintro e w1 ⟨rfl, k1⟩
  have HE : Hid (Grw W w1) := HKB.out.trans k1.out
  clear H1 k1 HKB hWA hWB c0 c1 d0 d1 HA HB
  go_wp2_with fail
  go_ret
  exact ⟨rfl, HE⟩
 ·rw [decide_eq_false h1] at H1
  obtain ⟨r, hr⟩ : ∃ r, decide (rolLt (b1, b2) (a1, a2)) = r := ⟨_, rfl⟩
  have hc : cmpO rolLt (a1, a2) (b1, b2) = if r = true then 1 else 0 := by
   rw [← hr]
   show (if _ then _ else _) = _
   rw [if_neg h1]
   simp
  rw [hc]
  rw [hr] at H2
  clear hc h1 hr
  unfold rolV2 at *
  cases r
  all_goals
   go_enter Tryz.func165, Tryz.ntmps165
   go_wp2_with fail
   refine (H1.out _).mono ?_
   rintro e w1 ⟨rfl, k1⟩
   have HK1 : Hid (Grw W w1) := HKB.out.trans k1.out
   have hA1 := (k1.out.block _ (lt_of_heap HA.out) (fun x => x)).trans HA.out
   have hB1 := (k1.out.block _ (lt_of_heap HB.out) (fun x => x)).trans HB.out
   clear H1 k1 HKB hWA hWB c0 c1 d0 d1
   have c0 := cell_of_heap hA1 0
   have c1 := cell_of_heap hA1 1
   have d0 := cell_of_heap hB1 0
   have d1 := cell_of_heap hB1 1
   simp only [List.getElem?_toArray, List.getElem?_cons_zero, List.getElem?_cons_succ] at c0 c1 d0 d1
   clear hA1 hB1 HA HB
   go_wp2_with fail
   refine (H2.out _).mono ?_
   rintro e w2 ⟨rfl, k2⟩
   have HE : Hid (Grw W w2) := HK1.out.trans k2.out
   clear H2 k2 HK1 c0 c1 d0 d1
   go_wp2_with fail
   go_ret
   exact ⟨rfl, HE⟩
end
end Go.Proofs.YtckikkkdabpjkaaGreat
/-
 The library's SortFunc at rows of statements and of roles: what it leaves.
-/
set_option linter.unusedVariables false
set_option linter.unusedSimpArgs false
set_option linter.unnecessarySimpa false
namespace Go.Proofs.YtckikkkdabpjkaaGreat
open Go.ChangeShapes Go.WideShapes Go.ChangeAt Go.RowKit Go.Deep Go.Sort
set_option maxRecDepth 100000
set_option maxHeartbeats 3200000
section
variable {α : Type} {lt : α → α → Prop} [DecidableRel lt]
theorem ltOf_cmp (o : LO lt) (x y : α) : ltOf (cmpO lt) x y = decide (lt x y) := by
 unfold ltOf
 exact cmp_lt o x y
theorem swo_cmp (o : LO lt) : SWO (ltOf (cmpO lt)) where
 irrefl x := by rw [ltOf_cmp o]; exact decide_eq_false (o.irrefl x)
 trans x y z h1 h2 := by
  rw [ltOf_cmp o] at *
  exact decide_eq_true (o.trans (of_decide_eq_true h1) (of_decide_eq_true h2))
 ntrans x y z h1 h2 := by
  rw [ltOf_cmp o] at *
  have h1 := of_decide_eq_false h1
  have h2 := of_decide_eq_false h2
  refine decide_eq_false (fun h => ?_)
  rcases o.total x y with q | q | q
  ·exact h1 q
  ·subst q; exact h2 h
  ·rcases o.total y z with r | r | r
   ·exact h2 r
   ·subst r; exact o.irrefl _ (o.trans h q)
   ·exact o.irrefl _ (o.trans (o.trans h r) q)
theorem tot_cmp (o : LO lt) (x y : α) (h1 : ltOf (cmpO lt) x y = false) (h2 : ltOf (cmpO lt) y x = false) : x = y := by
 rw [ltOf_cmp o] at h1 h2
 have h1 := of_decide_eq_false h1
 have h2 := of_decide_eq_false h2
 rcases o.total x y with q | q | q
 ·exact absurd q h1
 ·exact q
 ·exact absurd q h2
variable (lt) in
/-- In order; what is in more than once stays so. -/
def mrgO (l : List α) : List α := l.mergeSort fun x y => !(ltOf (cmpO lt)) y x
theorem mrgO_len (l : List α) : (mrgO lt l).length = l.length := by unfold mrgO; simp
theorem mrgO_mem (l : List α) (x : α) : x ∈ mrgO lt l ↔ x ∈ l := by unfold mrgO; exact (List.mergeSort_perm l _).mem_iff
theorem mrgO_sorted (o : LO lt) (l : List α) : (mrgO lt l).Pairwise (fun x y => ¬ lt y x) := by
 have h := List.pairwise_mergeSort (le := fun x y => !(ltOf (cmpO lt)) y x) (fun a b c h1 h2 => by
  simp only [Bool.not_eq_true'] at h1 h2 ⊢
  exact (swo_cmp o).ntrans c b a h2 h1) (fun a b => by
  rw [ltOf_cmp o, ltOf_cmp o]
  simp only [Bool.or_eq_true, Bool.not_eq_true', decide_eq_false_iff_not]
  rcases Classical.em (lt b a) with h | h
  ·exact .inr (fun k => o.irrefl _ (o.trans h k))
  ·exact .inl h) l
 exact h.imp (fun h => by rw [ltOf_cmp o] at h; simpa using h)
theorem srt_world [Inhabited α] {E : Elt α} {W : World} {g : Nat} {l m : List α} (hg : g < W.heap.size) (hH : HoldsK E.enc E.k W g 0 l.toArray) (hm : m.length = l.length) (n : Nat) (os : Array Obj) :
 Keeps (fun q => q = g) W (sortWorldK E.enc E.k W g 0 n m.toArray os) ∧ HoK E (sortWorldK E.enc E.k W g 0 n m.toArray os) g 0 m := by
 have hs : m.toArray.size = l.toArray.size := by simpa using hm
 have hg2 : g < (putRowK E.enc E.k (Go.Sort.ahead W n) g 0 m.toArray).heap.size := by
  unfold putRowK
  rw [Go.Sort.size_putRow]; exact hg
 have hh2 := holdsK_grow E.enc E.k (putRowK E.enc E.k (Go.Sort.ahead W n) g 0 m.toArray) os g 0 _ hg2 (holdsK_putRowK E.enc E.k (Go.Sort.ahead W n) g 0 l.toArray m.toArray (holdsK_ahead E.enc E.k W n g 0 _ hH) hs)
 refine ⟨⟨rfl, rfl, rfl, ?_, fun k hk hq => ?_⟩, HoK.of ?_ hh2⟩
 ·show W.heap.size ≤ (Go.Sort.grow _ os).heap.size
  rw [Go.Sort.size_grow]
  unfold putRowK
  rw [Go.Sort.size_putRow]
  show W.heap.size ≤ W.heap.size + _
  omega
 ·show (Go.Sort.grow (putRowK E.enc E.k (Go.Sort.ahead W n) g 0 m.toArray) os).heap[k]? = _
  rw [Go.Sort.heap_grow_old _ _ (by unfold putRowK; rw [Go.Sort.size_putRow]; exact hk)]
  show (W.heap.modify g _)[k]? = W.heap[k]?
  rw [Array.getElem?_modify, if_neg (fun e => hq e.symm)]
 ·show g < (Go.Sort.grow _ os).heap.size
  rw [Go.Sort.size_grow]; omega
theorem srt_shape [Inhabited α] {E : Elt α} {W : World} {g s : Nat} {T : TypeId} {m : List α} (h : Shp3 T W g s) (n : Nat) (os : Array Obj) : Shp3 T (sortWorldK E.enc E.k W g 0 n m.toArray os) g s := by
 obtain ⟨cur, h1, h2⟩ := h
 have hg := lt_of_heap h1
 refine ⟨putCells id 0 (flatK E.enc E.k m.toArray) cur, ?_, ?_⟩
 ·show (Go.Sort.grow (putRowK E.enc E.k (Go.Sort.ahead W n) g 0 m.toArray) os).heap[g]? = _
  rw [Go.Sort.heap_grow_old _ _ (by unfold putRowK; rw [Go.Sort.size_putRow]; exact hg)]
  simp [putRowK, putRow, mapBlock, Go.Sort.ahead, Array.getElem?_modify, h1, onCells]
 ·rw [← h2]
  simp [putCells]
end
theorem srtM_none (W : World) : Calls Tryz.prog 175 #[.slice none 0 0, .func (.func 176) #[] #[]] W fun e W' => e = .returned (.tuple #[]) ∧ W' = W := by
 have hcon := AnyF.slices_SortFunc_none srtMLays none 0 (.func (.func 176) #[] #[]) W
 exact hcon
theorem srtM_spec {W : World} {g cap : Nat} {cur : Array Value} {l : List Stm} (hh : W.heap[g]? = some (.cells cur stmE.T (0, 0))) (ht : cur.toList.take (l.length * stmE.k) = flat stmE l) (hl : l.length ≤ 1000000) :
 Calls Tryz.prog 175 #[.slice (some ⟨g, 0, none⟩) l.length cap, .func (.func 176) #[] #[]] W fun e W' => e = .returned (.tuple #[]) ∧ Hid (Keeps (fun q => q = g) W W' ∧ HoS stmE W' g cur.size (mrgO stmLt l)) := by
 have hg := lt_of_heap hh
 have hH : HoldsK stmE.enc stmE.k W g 0 l.toArray := OwnK.holds (cap := cap) hh ht
 have eg : ∀ args w, (callFunc 176 args).run Tryz.prog w = .ok (.enter 176 args) w := enters_of Tryz.func176 (by kernel_rfl) rfl
 have hcl : Go.Proofs.CmpLays Tryz.prog 176 #[] stmE.enc 9 (cmpO stmLt) g 0 l.toArray.size W := fun m os dk _ x y => (sclos_grw x y).mono fun e W' h => ⟨h.1, h.2.out.grown⟩
 have hcon := AnyQ.slices_SortFunc_total srtMLays 9 Tryz.isAgg38 Tryz.sizeOf38 stmE.enc stmE.len stmE.one (cmpO stmLt) (swo_cmp stmO) 176 #[] g 0 cap l.toArray W eg hcl hH hg (by simp; omega) (tot_cmp stmO)
 have hsz : l.toArray.size = l.length := by simp
 rw [hsz] at hcon
 refine hcon.mono ?_
 rintro e W' ⟨rfl, m, os, rfl⟩
 have q := srt_world hg hH (mrgO_len (lt := stmLt) l) m os
 exact ⟨rfl, q.1, q.2, srt_shape ⟨cur, hh, rfl⟩ m os⟩
theorem srtR_none (W : World) : Calls Tryz.prog 164 #[.slice none 0 0, .func (.func 165) #[] #[]] W fun e W' => e = .returned (.tuple #[]) ∧ W' = W := by
 have hcon := AnyF.slices_SortFunc_none srtRLays none 0 (.func (.func 165) #[] #[]) W
 exact hcon
theorem srtR_spec {W : World} {g cap : Nat} {cur : Array Value} {l : List Rol} (hh : W.heap[g]? = some (.cells cur rolE.T (0, 0))) (ht : cur.toList.take (l.length * rolE.k) = flat rolE l) (hl : l.length ≤ 1000000) :
 Calls Tryz.prog 164 #[.slice (some ⟨g, 0, none⟩) l.length cap, .func (.func 165) #[] #[]] W fun e W' => e = .returned (.tuple #[]) ∧ Hid (Keeps (fun q => q = g) W W' ∧ HoS rolE W' g cur.size (mrgO rolLt l)) := by
 have hg := lt_of_heap hh
 have hH : HoldsK rolE.enc rolE.k W g 0 l.toArray := OwnK.holds (cap := cap) hh ht
 have eg : ∀ args w, (callFunc 165 args).run Tryz.prog w = .ok (.enter 165 args) w := enters_of Tryz.func165 (by kernel_rfl) rfl
 have hcl : Go.Proofs.CmpLays Tryz.prog 165 #[] rolE.enc 2 (cmpO rolLt) g 0 l.toArray.size W := fun m os dk _ x y => (rclos_grw x y).mono fun e W' h => ⟨h.1, h.2.out.grown⟩
 have hcon := AnyQ.slices_SortFunc_total srtRLays 2 Tryz.isAgg28 Tryz.sizeOf28 rolE.enc rolE.len rolE.one (cmpO rolLt) (swo_cmp rolO) 165 #[] g 0 cap l.toArray W eg hcl hH hg (by simp; omega) (tot_cmp rolO)
 have hsz : l.toArray.size = l.length := by simp
 rw [hsz] at hcon
 refine hcon.mono ?_
 rintro e W' ⟨rfl, m, os, rfl⟩
 have q := srt_world hg hH (mrgO_len (lt := rolLt) l) m os
 exact ⟨rfl, q.1, q.2, srt_shape ⟨cur, hh, rfl⟩ m os⟩
end Go.Proofs.YtckikkkdabpjkaaGreat
/-
 The library's Clone and Compact at roles.
-/
set_option linter.unusedVariables false
set_option linter.unusedSimpArgs false
set_option linter.unnecessarySimpa false
namespace Go.Proofs.YtckikkkdabpjkaaGreat
open Go.ChangeShapes Go.WideShapes Go.ChangeAt Go.RowKit Go.Deep
set_option maxRecDepth 100000
set_option maxHeartbeats 6400000
theorem cloneR_spec {W : World} {v : Value} {l : List Rol} (h : SrcK rolE W v l) (hl : l.length ≤ 10000) :
 Calls Tryz.prog 124 #[v] W fun e W' => ∃ v', e = .returned v' ∧ Hid (KF W W' ∧ OwnK rolE W.heap.size W' v' l) := by
 obtain ⟨⟨ao, cap, rfl, hle, hr⟩, hnil⟩ := id h
 have HS := Lib.hid h
 cases ao with
 | none =>
  have hcap := hnil _ _ rfl
  subst hcap
  obtain rfl : l = [] := List.eq_nil_of_length_eq_zero (by omega)
  have hqn : ∀ (w : World), (binOp .eql 23 (.slice none 0 0) (.slice none 0 0)).run Tryz.prog w = .ok (.bool true) w := fun w => Lib.run_eql_slice_nil w _ 28 none 0 0 0 0 Tryz.underlying23
  clear hr hnil h HS hle
  go_enter Tryz.func124, Tryz.ntmps124
  go_wp2_with fail
  go_ret
  exact ⟨_, rfl, Keeps.refl _ _, ownK_nil rolE _ _⟩
 | some ad =>
  obtain ⟨nl, hnl⟩ : ∃ nl, l.length = nl := ⟨_, rfl⟩
  rw [hnl] at hle hl HS ⊢
  have HN := Lib.hid hnl
  have hqn : ∀ (w : World) (n c : Nat), (binOp .eql 23 (.slice (some ad) n c) (.slice none 0 0)).run Tryz.prog w = .ok (.bool false) w := fun w n c => Lib.run_eql_slice_nil w _ 28 (some ad) n c 0 0 Tryz.underlying23
  clear hr hnil h hnl
  go_enter Tryz.func124, Tryz.ntmps124
  go_wp2_with (at_builtin; refine app_k (E := rolE) rfl _ _ rfl W.heap.size _ [] rfl (ownK_lit rolE (Nat.le_refl _)) _ l rfl (HS.out.keeps ((Keeps.refl _ _).alloc _)) (by have := HN.out; simp <;> omega) (by simp <;> omega) ?_)
  intro rv w4 hro hk4
  (try rw [List.nil_append] at hro)
  have HE : Hid (KF W w4 ∧ OwnK rolE W.heap.size w4 rv l) := ⟨((Keeps.refl (fun _ => False) W).alloc _).trans_new hk4 (fun q hq e => by simp [Value.ownBlock] at e; omega), hro⟩
  clear hro hk4 HS
  go_wp2_with fail
  go_ret
  exact ⟨_, rfl, HE⟩
theorem compR_none (W : World) : Calls Tryz.prog 167 #[.slice none 0 0] W fun e W' => e = .returned (.slice none 0 0) ∧ W = W' := by
 go_enter Tryz.func167, Tryz.ntmps167
 go_wp2_with fail
 go_ret
 exact ⟨rfl, rfl⟩
theorem compR_spec {W : World} {g cap M : Nat} {l : List Rol} (h : HoS rolE W g M l) (hle : l.length ≤ cap) (hl : l.length ≤ 10000) (hs : l.Pairwise (fun x y => ¬ rolLt y x)) :
 Calls Tryz.prog 167 #[.slice (some ⟨g, 0, none⟩) l.length cap] W fun e W' => ∃ k : Nat, e = .returned (.slice (some ⟨g, 0, none⟩) k cap) ∧ Hid (Keeps (fun q => q = g) W W' ∧ HoS rolE W' g M (sortO rolLt l) ∧ k = (sortO rolLt l).length ∧ k ≤ cap) := by
 have HH := Lib.hid h
 have HSO := Lib.hid hs
 obtain ⟨nl, hnl⟩ : ∃ nl, l.length = nl := ⟨_, rfl⟩
 rw [hnl] at hle hl ⊢
 have HN := Lib.hid hnl
 have HD : Hid (∀ (w : World) (cur : List Rol) (k : Nat), HoS rolE w g M cur → k ≤ cur.length → k ≤ cap → cur.take k = sortO rolLt l → HoS rolE w g M (sortO rolLt l) ∧ k = (sortO rolLt l).length ∧ k ≤ cap) := fun w cur k hc hk hkc e => by
  have hlt : (cur.take k).length = k := by rw [List.length_take]; omega
  have q := hc.take k
  rw [e] at q hlt
  exact ⟨q, hlt.symm, hkc⟩
 clear h hs hnl
 by_cases h2 : nl < 2
 ·have h2I : (nl : Int) < 2 := by omega
  have HE : Hid (Keeps (fun q => q = g) W W ∧ HoS rolE W g M (sortO rolLt l) ∧ nl = (sortO rolLt l).length ∧ nl ≤ cap) := by
   refine ⟨Keeps.refl _ _, HD.out W l nl HH.out (by have := HN.out; omega) hle ?_⟩
   rw [List.take_of_length_le (by have := HN.out; omega)]
   refine rise_all rolO (m := 2) ?_ (by have := HN.out; omega)
   have hn := HN.out
   match l, hn with
   | [], _ => simp
   | [a], _ => simp
   | a :: b :: r, hn => simp at hn; omega
  clear HD HH HSO
  go_enter Tryz.func167, Tryz.ntmps167
  go_wp2_with fail
  go_ret
  exact ⟨_, rfl, HE⟩
 ·have h2I : ¬ (nl : Int) < 2 := by omega
  go_enter Tryz.func167, Tryz.ntmps167
  go_wp2_with fail
  go_loopg [3] (nl - 1) (fun gg t wx => ∃ i nq : Nat, i + 1 ≤ nl ∧ gg = nl - (i + 1) ∧ t = .int .i64 ((i : Int) + 1) ∧ wx = W.drewN nq ∧ Hid ((l.take (i + 1)).Pairwise rolLt))
  case atStart => exact ⟨0, 0, by omega, by omega, rfl, rfl, by show List.Pairwise _ _; match l with | [] => simp | a :: r => simp⟩
  case round =>
   obtain ⟨i, nq0, hi, rfl, rfl, rfl, HI⟩ := hrel
   have hw0 : IntKind.i64.wrap ((i : Int) + 1 + 1) = ((i + 1 : Nat) : Int) + 1 := IntWalk.i64_in _ (by omega)
   have hw1 : IntKind.i64.wrap ((i : Int) + 1 - 1) = (i : Int) := by rw [Int.add_sub_cancel]; exact IntWalk.i64_in _ (by omega)
   have hw2 : IntKind.i64.wrap (i : Int) = (i : Int) := IntWalk.i64_in _ (by omega)
   by_cases hlt : i + 1 < nl
   ·have hltI : (i : Int) + 1 < (nl : Int) := by omega
    obtain ⟨x, hx⟩ : ∃ x, l[i + 1]? = some x := ⟨_, List.getElem?_eq_getElem (by rw [HN.out]; exact hlt)⟩
    obtain ⟨y, hy⟩ : ∃ y, l[i]? = some y := ⟨_, List.getElem?_eq_getElem (by rw [HN.out]; omega)⟩
    have hic1 : i + 1 < cap := by omega
    have hic2 : i < cap := by omega
    have hcx := fun c u hu => (HH.out.1.2 (i + 1) x hx c u hu).1
    have hcy := fun c u hu => (HH.out.1.2 i y hy c u hu).1
    have HX := Lib.hid hx
    have HY := Lib.hid hy
    clear hx hy
    have HQ := rol_eql x y
    obtain ⟨x1, x2⟩ := x
    obtain ⟨y1, y2⟩ := y
    have p0 : W.cell? ⟨g, (i + 1) * 2, none⟩ = some (.string ⟨x1.toArray⟩) := by
     have q := hcx 0 _ rfl
     rw [Nat.zero_add] at q
     exact q
    have q0 : W.cell? ⟨g, i * 2, none⟩ = some (.string ⟨y1.toArray⟩) := by
     have q := hcy 0 _ rfl
     rw [Nat.zero_add] at q
     exact q
    have p1 : W.cell? ⟨g, (i + 1) * 2 + 1, none⟩ = some (.string ⟨x2.toArray⟩) := by
     have q := hcx 1 _ rfl
     rw [Nat.zero_add] at q
     exact q
    have q1 : W.cell? ⟨g, i * 2 + 1, none⟩ = some (.string ⟨y2.toArray⟩) := by
     have q := hcy 1 _ rfl
     rw [Nat.zero_add] at q
     exact q
    have HQ : ∀ w, (binOp .eql 28 (.agg #[.string ⟨x1.toArray⟩, .string ⟨x2.toArray⟩]) (.agg #[.string ⟨y1.toArray⟩, .string ⟨y2.toArray⟩])).run Tryz.prog w = .ok (.bool (decide ((x1, x2) = (y1, y2)))) w := HQ
    clear hcx hcy
    by_cases e : (x1, x2) = (y1, y2)
    ·rw [decide_eq_true e] at HQ
     have HCI : Hid (CI rolLt l (i + 2) (i + 1) l) := ci_start rolO HI.out HY.out (by rw [HX.out, e])
     clear e HI
     go_wp2_with fail
     go_quiet (fail)
     go_upto_region 9 with fail
     clear HQ p0 q0 p1 q1 HX HY hw0 hw1 hw2
     have HKW : Hid (HoS rolE (W.drewN (nq0 + nq)) g M l ∧ Keeps (fun q => q = g) W (W.drewN (nq0 + nq))) := ⟨HH.out.keeps ((Keeps.refl (fun _ => False) _).drewN (nq0 + nq)) (fun x => x), (Keeps.refl _ _).drewN _⟩
     generalize W.drewN (nq0 + nq) = w0 at *
     obtain ⟨ns, hns⟩ : ∃ ns, nl - (i + 1) = ns := ⟨_, rfl⟩
     obtain ⟨cs, hcs⟩ : ∃ cs, cap - (i + 1) = cs := ⟨_, rfl⟩
     rw [hns, hcs]
     have HNS : Hid (nl = i + 1 + ns ∧ cap = i + 1 + cs) := ⟨by omega, by omega⟩
     have hnsl : ns ≤ 10000 := by omega
     have hncs : ns ≤ cs := by omega
     have hnp : 0 < ns := by omega
     clear hns hcs
     go_loopg [3, 5] (nl - (i + 2)) (fun gg t3 t5 wx => ∃ (c k : Nat) (cur : List Rol), i + 2 + c ≤ nl ∧ gg = nl - (i + 2 + c) ∧ t3 = .int .i64 (k : Int) ∧ t5 = .int .i64 ((c : Int) + 1) ∧ Hid (CI rolLt l (i + 2 + c) k cur ∧ HoS rolE wx g M cur ∧ Keeps (fun q => q = g) W wx))
     case atStart => exact ⟨0, i + 1, l, by omega, by omega, by first | rfl | go_num, by first | rfl | go_num, HCI.out, HKW.out.1, HKW.out.2⟩
     case round =>
      obtain ⟨c, k, cur, hc, rfl, rfl, rfl, HI⟩ := hrel
      clear HKW HCI
      have hkm := HI.out.1.km
      have hll := HI.out.1.len
      have hv0 : IntKind.i64.wrap ((c : Int) + 1 + 1) = ((c + 1 : Nat) : Int) + 1 := IntWalk.i64_in _ (by omega)
      have hv1 : IntKind.i64.wrap ((c : Int) + 1 - 1) = (c : Int) := by rw [Int.add_sub_cancel]; exact IntWalk.i64_in _ (by omega)
      have hv2 : IntKind.i64.wrap (c : Int) = (c : Int) := IntWalk.i64_in _ (by omega)
      have hv3 : IntKind.i64.wrap ((k : Int) + 1) = ((k + 1 : Nat) : Int) := IntWalk.i64_in _ (by omega)
      by_cases hlt2 : c + 1 < ns
      ·have hltI : (c : Int) + 1 < (ns : Int) := by omega
       have hm : i + 2 + c < nl := by have := HNS.out; omega
       obtain ⟨x, hx⟩ : ∃ x, l[i + 2 + c]? = some x := ⟨_, List.getElem?_eq_getElem (by rw [HN.out]; exact hm)⟩
       obtain ⟨y, hy⟩ : ∃ y, l[i + 1 + c]? = some y := ⟨_, List.getElem?_eq_getElem (by rw [HN.out]; omega)⟩
       obtain ⟨z, hz⟩ : ∃ z, cur[k]? = some z := ⟨_, List.getElem?_eq_getElem (by rw [hll, HN.out]; omega)⟩
       have hx2 : cur[i + 2 + c]? = some x := by rw [HI.out.1.rest _ (by omega)]; exact hx
       have hy2 : cur[i + 1 + c]? = some y := by rw [HI.out.1.rest _ (by omega)]; exact hy
       have e1 : i + 2 + c = (i + 1 + c) + 1 := by omega
       have hcx := fun q u hu => (HI.out.2.1.1.2 (i + 2 + c) x hx2 q u hu).1
       have hcy := fun q u hu => (HI.out.2.1.1.2 (i + 1 + c) y hy2 q u hu).1
       have hcz := fun q u hu => HI.out.2.1.1.2 k z hz q u hu
       have ex : 0 + (i + 2 + c) * rolE.k = (i + 1) * 2 + (c + 1) * 2 := by show 0 + (i + 2 + c) * 2 = _; omega
       have ey : 0 + (i + 1 + c) * rolE.k = (i + 1) * 2 + c * 2 := by show 0 + (i + 1 + c) * 2 = _; omega
       have ez : 0 + k * rolE.k = k * 2 := by show 0 + k * 2 = _; omega
       rw [ex] at hcx
       rw [ey] at hcy
       rw [ez] at hcz
       have hkc : k < cap := by omega
       have hkn : k < nl := by omega
       have hcc1 : c + 1 < cs := by omega
       have hcc2 : c < cs := by omega
       have hcc3 : c < ns := by omega
       have HX := Lib.hid hx
       have HY := Lib.hid hy
       have HCS : Hid (x = y → CI rolLt l (i + 2 + (c + 1)) k cur) := fun e => by
        subst e
        have q := HI.out.1
        rw [show i + 2 + c = (i + 1 + c) + 1 by omega] at q hx
        have r := q.same hy hx
        rw [show i + 2 + (c + 1) = (i + 1 + c) + 2 by omega]
        exact r
       have HCN : Hid (x ≠ y → CI rolLt l (i + 2 + (c + 1)) (k + 1) (cur.set k x)) := fun e => by
        have q := HI.out.1
        rw [show i + 2 + c = (i + 1 + c) + 1 by omega] at q hx
        have r := q.next rolO HSO.out hy hx e
        rw [show i + 2 + (c + 1) = (i + 1 + c) + 2 by omega]
        exact r
       have HPW : Hid (HoS rolE (wr.setCells g (k * 2) (rolEnc x)) g M (cur.set k x) ∧ Keeps (fun q => q = g) W (wr.setCells g (k * 2) (rolEnc x))) := by
        have q := HI.out.2.1.put (n := k) (by rw [hll, HN.out]; exact hkn) x
        rw [ez] at q
        exact ⟨q.1, HI.out.2.2.trans q.2⟩
       clear hx hy hx2 hy2 e1 ex ey ez hz hll hkm
       have HQ := rol_neq x y
       obtain ⟨x1, x2⟩ := x
       obtain ⟨y1, y2⟩ := y
       obtain ⟨z1, z2⟩ := z
       have HQ : ∀ w, (binOp .neq 28 (.agg #[.string ⟨x1.toArray⟩, .string ⟨x2.toArray⟩]) (.agg #[.string ⟨y1.toArray⟩, .string ⟨y2.toArray⟩])).run Tryz.prog w = .ok (.bool (!decide ((x1, x2) = (y1, y2)))) w := HQ
       have p0 : wr.cell? ⟨g, (i + 1) * 2 + (c + 1) * 2, none⟩ = some (.string ⟨x1.toArray⟩) := hcx 0 _ rfl
       have q0 : wr.cell? ⟨g, (i + 1) * 2 + c * 2, none⟩ = some (.string ⟨y1.toArray⟩) := hcy 0 _ rfl
       obtain ⟨r0, f0⟩ : wr.cell? ⟨g, k * 2, none⟩ = some (.string ⟨z1.toArray⟩) ∧ wr.frozen? ⟨g, k * 2, none⟩ = false := hcz 0 _ rfl
       have p1 : wr.cell? ⟨g, (i + 1) * 2 + (c + 1) * 2 + 1, none⟩ = some (.string ⟨x2.toArray⟩) := hcx 1 _ rfl
       have q1 : wr.cell? ⟨g, (i + 1) * 2 + c * 2 + 1, none⟩ = some (.string ⟨y2.toArray⟩) := hcy 1 _ rfl
       obtain ⟨r1, f1⟩ : wr.cell? ⟨g, k * 2 + 1, none⟩ = some (.string ⟨z2.toArray⟩) ∧ wr.frozen? ⟨g, k * 2 + 1, none⟩ = false := hcz 1 _ rfl
       clear hcx hcy hcz
       by_cases e : (x1, x2) = (y1, y2)
       ·rw [decide_eq_true e] at HQ
        have HN2 : Hid (CI rolLt l (i + 2 + (c + 1)) k cur ∧ HoS rolE wr g M cur ∧ Keeps (fun q => q = g) W wr) := ⟨HCS.out e, HI.out.2⟩
        clear e HCS HCN HPW HI HX HY
        go_wp2_with fail
        go_quiet (fail)
        have HN3 : Hid (CI rolLt l (i + 2 + (c + 1)) k cur ∧ HoS rolE (wr.drewN nq) g M cur ∧ Keeps (fun q => q = g) W (wr.drewN nq)) := ⟨HN2.out.1, HN2.out.2.1.keeps ((Keeps.refl (fun _ => False) _).drewN nq) (fun x => x), HN2.out.2.2.drewN nq⟩
        go_wp2_with fail
        go_roundg (nl - (i + 2 + (c + 1)))
        case measure => omega
        case rel => exact ⟨c + 1, k, cur, by omega, rfl, rfl, by first | rfl | go_num, HN3⟩
       ·rw [decide_eq_false e] at HQ
        have HN2 : Hid (CI rolLt l (i + 2 + (c + 1)) (k + 1) (cur.set k (x1, x2))) := HCN.out e
        clear e HCS HCN HX HY
        go_wp2_with fail
        go_quiet (fail)
        go_upto_region 12 with fail
        have hkd : KF wr (wr.drewN nq) := (Keeps.refl _ _).drewN nq
        have HI3 : Hid (HoS rolE (wr.drewN nq) g M cur ∧ Keeps (fun q => q = g) W (wr.drewN nq)) := ⟨HI.out.2.1.keeps hkd (fun x => x), HI.out.2.2.drewN nq⟩
        have HP3 : Hid (HoS rolE ((wr.drewN nq).setCells g (k * 2) (rolEnc (x1, x2))) g M (cur.set k (x1, x2)) ∧ Keeps (fun q => q = g) W ((wr.drewN nq).setCells g (k * 2) (rolEnc (x1, x2)))) := by
         have q := HI3.out.1.put (n := k) (by rw [HI.out.1.len, HN.out]; exact hkn) (x1, x2)
         rw [show 0 + k * rolE.k = k * 2 by show 0 + k * 2 = _; omega] at q
         exact ⟨q.1, HI3.out.2.trans q.2⟩
        have s0 : (wr.drewN nq).cell? ⟨g, (i + 1) * 2 + (c + 1) * 2, none⟩ = some (.string ⟨x1.toArray⟩) := p0
        have t0 : (wr.drewN nq).cell? ⟨g, k * 2, none⟩ = some (.string ⟨z1.toArray⟩) := r0
        have v0 : (wr.drewN nq).frozen? ⟨g, k * 2, none⟩ = false := f0
        have s1 : (wr.drewN nq).cell? ⟨g, (i + 1) * 2 + (c + 1) * 2 + 1, none⟩ = some (.string ⟨x2.toArray⟩) := p1
        have t1 : (wr.drewN nq).cell? ⟨g, k * 2 + 1, none⟩ = some (.string ⟨z2.toArray⟩) := r1
        have v1 : (wr.drewN nq).frozen? ⟨g, k * 2 + 1, none⟩ = false := f1
        clear HPW HI HI3 HQ hkd p0 q0 r0 f0 p1 q1 r1 f1
        generalize wr.drewN nq = w5 at *
        go_wp2_with fail
        go_roundg (nl - (i + 2 + (c + 1)))
        case measure => omega
        case rel => exact ⟨c + 1, k + 1, cur.set k (x1, x2), by omega, rfl, by first | rfl | go_num, by first | rfl | go_num, ⟨HN2.out, HP3.out⟩⟩
      ·have hce : i + 2 + c = nl := by have := HNS.out; omega
       have hltI : ¬ (c : Int) + 1 < (ns : Int) := by omega
       have hkc : k < cap := by omega
       have hkn : k < nl := by omega
       have hkc2 : k ≤ cap := by omega
       have hkc3 : ¬ (cap = k) := by omega
       have hcl : ∀ (ty : TypeId) (c' : Nat), (Builtin.clear_ #[23] ty #[.slice (some ⟨g, k * 2, none⟩) (nl - k) c']).run Tryz.prog wr = .ok (.tuple #[]) (wr.setCells g (k * 2) (rolZero (nl - k))) := fun ty c' => by
        have q := rol_clear HI.out.2.1.1 (n := k) (by rw [hll, HN.out]; exact hkn) ty c'
        rw [hll, HN.out] at q
        exact q
       have HE : Hid (Keeps (fun q => q = g) W (wr.setCells g (k * 2) (rolZero (nl - k))) ∧ HoS rolE (wr.setCells g (k * 2) (rolZero (nl - k))) g M (sortO rolLt l) ∧ k = (sortO rolLt l).length ∧ k ≤ cap) := by
        have q := HI.out.2.1.past k (rolZero (nl - k))
        have hlk : (cur.take k).length = k := by rw [List.length_take]; have := HN.out; omega
        have hd := HI.out.1.done rolO (by rw [HN.out]; omega)
        exact ⟨HI.out.2.2.trans q.2, HD.out _ (cur.take k) k q.1 (by omega) hkc2 (by rw [List.take_take, Nat.min_self]; exact hd)⟩
       clear HI HD HH HSO hv0 hv1 hv2 hv3 hll hkm
       go_wp2_with (simp only [hcl])
       go_ret
       exact ⟨_, rfl, HE⟩
    ·rw [decide_eq_false e] at HQ
     have HN2 : Hid ((l.take (i + 1 + 1)).Pairwise rolLt) := rise_step rolO HSO.out HI.out HY.out HX.out e
     clear e HI
     go_wp2_with fail
     go_quiet (fail)
     go_wp2_with fail
     go_roundg (nl - (i + 1 + 1))
     case measure => omega
     case rel => exact ⟨i + 1, _, by omega, rfl, by first | rfl | go_num, rfl, HN2⟩
   ·obtain rfl : nl = i + 1 := by omega
    have hltI : ¬ (i : Int) + 1 < (i : Int) + 1 := by omega
    have HE : Hid (∀ nq, Keeps (fun q => q = g) W (W.drewN nq) ∧ HoS rolE (W.drewN nq) g M (sortO rolLt l) ∧ (i + 1) = (sortO rolLt l).length ∧ (i + 1) ≤ cap) := fun nq => by
     refine ⟨(Keeps.refl _ _).drewN _, HD.out _ l (i + 1) (HH.out.keeps ((Keeps.refl (fun _ => False) _).drewN nq) (fun x => x)) (by have := HN.out; omega) hle ?_⟩
     rw [List.take_of_length_le (by have := HN.out; omega)]
     exact rise_all rolO HI.out (by have := HN.out; omega)
    clear HD HI HH HSO
    go_wp2_with fail
    go_ret
    exact ⟨_, rfl, HE.out _⟩
end Go.Proofs.YtckikkkdabpjkaaGreat
/-
 The program's sorts: of statements (syn.Sort), of roles (policy.SortRoles).
-/
set_option linter.unusedVariables false
set_option linter.unusedSimpArgs false
set_option linter.unnecessarySimpa false
namespace Go.Proofs.YtckikkkdabpjkaaGreat
open Go.ChangeShapes Go.WideShapes Go.ChangeAt Go.RowKit Go.Deep
set_option maxRecDepth 100000
set_option maxHeartbeats 3200000
theorem mrgO_eq {α : Type} {lt : α → α → Prop} [DecidableRel lt] [DecidableEq α] (o : LO lt) (l : List α) : sortO lt (mrgO lt l) = sortO lt l :=
 sortO_eq o (sortO_rises o _) (fun x => by rw [sortO_mem, mrgO_mem])
theorem ssort_own {W : World} {v : Value} {l : List Stm} (h : SrcK stmE W v l) (hl : l.length ≤ 10000) :
 Calls Tryz.prog 125 #[v] W fun e W' => ∃ v', e = .returned v' ∧ Hid (KF W W' ∧ OwnK stmE W.heap.size W' v' (sortO stmLt l)) := by
 have HC := Lib.hid (cloneM_spec h hl)
 clear h
 go_enter Tryz.func125, Tryz.ntmps125
 go_wp2_with fail
 refine HC.out.mono ?_
 rintro e w1 ⟨v1, rfl, h1⟩
 rcases h1.out.2.form with ⟨rfl, rfl⟩ | ⟨g, cap, cur, rfl, hgb, hh, hle, hmx, hsz, ht⟩
 ·have HS := Lib.hid (srtM_none w1)
  have HP := Lib.hid (compM_none w1)
  have HE : Hid (KF W w1 ∧ OwnK stmE W.heap.size w1 (.slice none 0 0) (sortO stmLt [])) := ⟨h1.out.1, ownK_nil stmE _ w1⟩
  clear h1 HC
  go_wp2_with fail
  refine HS.out.mono ?_
  rintro e w2 ⟨rfl, rfl⟩
  go_wp2_with fail
  refine HP.out.mono ?_
  rintro e w3 ⟨rfl, rfl⟩
  go_wp2_with fail
  go_ret
  exact ⟨_, rfl, HE⟩
 ·have HS := Lib.hid (srtM_spec (cap := cap) hh ht (by omega))
  have HK1 : Hid (KF W w1 ∧ W.heap.size ≤ g ∧ g < w1.heap.size) := ⟨h1.out.1, hgb, lt_of_heap hh⟩
  have HMX := Lib.hid hmx
  rw [hsz] at HS
  have hnl := mrgO_len (lt := stmLt) l
  have HCP : Hid (∀ w2, HoS stmE w2 g (cap * stmE.k) (mrgO stmLt l) → Calls Tryz.prog 177 #[.slice (some ⟨g, 0, none⟩) l.length cap] w2 fun e W' => ∃ k : Nat, e = .returned (.slice (some ⟨g, 0, none⟩) k cap) ∧ Hid (Keeps (fun q => q = g) w2 W' ∧ HoS stmE W' g (cap * stmE.k) (sortO stmLt l) ∧ k = (sortO stmLt l).length ∧ k ≤ cap)) := fun w2 h2 => by
   have q := compM_spec (cap := cap) h2 (by rw [hnl]; exact hle) (by rw [hnl]; exact hl) (mrgO_sorted stmO l)
   rw [mrgO_eq stmO, hnl] at q
   exact q
  obtain ⟨nl, hnn⟩ : ∃ nl, l.length = nl := ⟨_, rfl⟩
  rw [hnn] at HS HCP ⊢
  clear h1 HC hh ht hle hnl hnn hgb hl hmx hsz
  go_wp2_with fail
  refine HS.out.mono ?_
  rintro e w2 ⟨rfl, h2⟩
  have HP := Lib.hid (HCP.out w2 h2.out.2)
  have HK2 : Hid (KF W w2 ∧ w1.heap.size ≤ w2.heap.size) := ⟨HK1.out.1.trans_new h2.out.1 (fun q hq e => by have := HK1.out.2; omega), h2.out.1.size⟩
  clear HS HCP h2
  go_wp2_with fail
  refine HP.out.mono ?_
  rintro e w3 ⟨k3, rfl, h3⟩
  have HE : Hid (KF W w3 ∧ OwnK stmE W.heap.size w3 (.slice (some ⟨g, 0, none⟩) k3 cap) (sortO stmLt l)) := ⟨HK2.out.1.trans_new h3.out.1 (fun q hq e => by have := HK1.out.2; omega), by
   have q := h3.out.2.2
   rw [q.1]
   exact h3.out.2.1.own HK1.out.2.1 (by rw [← q.1]; exact q.2) HMX.out⟩
  clear HP h3 HK2 HK1
  go_wp2_with fail
  go_ret
  exact ⟨_, rfl, HE⟩
theorem rsort_own {W : World} {v : Value} {l : List Rol} (h : SrcK rolE W v l) (hl : l.length ≤ 10000) :
 Calls Tryz.prog 112 #[v] W fun e W' => ∃ v', e = .returned v' ∧ Hid (KF W W' ∧ OwnK rolE W.heap.size W' v' (sortO rolLt l)) := by
 have HC := Lib.hid (cloneR_spec h hl)
 clear h
 go_enter Tryz.func112, Tryz.ntmps112
 go_wp2_with fail
 refine HC.out.mono ?_
 rintro e w1 ⟨v1, rfl, h1⟩
 rcases h1.out.2.form with ⟨rfl, rfl⟩ | ⟨g, cap, cur, rfl, hgb, hh, hle, hmx, hsz, ht⟩
 ·have HS := Lib.hid (srtR_none w1)
  have HP := Lib.hid (compR_none w1)
  have HE : Hid (KF W w1 ∧ OwnK rolE W.heap.size w1 (.slice none 0 0) (sortO rolLt [])) := ⟨h1.out.1, ownK_nil rolE _ w1⟩
  clear h1 HC
  go_wp2_with fail
  refine HS.out.mono ?_
  rintro e w2 ⟨rfl, rfl⟩
  go_wp2_with fail
  refine HP.out.mono ?_
  rintro e w3 ⟨rfl, rfl⟩
  go_wp2_with fail
  go_ret
  exact ⟨_, rfl, HE⟩
 ·have HS := Lib.hid (srtR_spec (cap := cap) hh ht (by omega))
  have HK1 : Hid (KF W w1 ∧ W.heap.size ≤ g ∧ g < w1.heap.size) := ⟨h1.out.1, hgb, lt_of_heap hh⟩
  have HMX := Lib.hid hmx
  rw [hsz] at HS
  have hnl := mrgO_len (lt := rolLt) l
  have HCP : Hid (∀ w2, HoS rolE w2 g (cap * rolE.k) (mrgO rolLt l) → Calls Tryz.prog 167 #[.slice (some ⟨g, 0, none⟩) l.length cap] w2 fun e W' => ∃ k : Nat, e = .returned (.slice (some ⟨g, 0, none⟩) k cap) ∧ Hid (Keeps (fun q => q = g) w2 W' ∧ HoS rolE W' g (cap * rolE.k) (sortO rolLt l) ∧ k = (sortO rolLt l).length ∧ k ≤ cap)) := fun w2 h2 => by
   have q := compR_spec (cap := cap) h2 (by rw [hnl]; exact hle) (by rw [hnl]; exact hl) (mrgO_sorted rolO l)
   rw [mrgO_eq rolO, hnl] at q
   exact q
  obtain ⟨nl, hnn⟩ : ∃ nl, l.length = nl := ⟨_, rfl⟩
  rw [hnn] at HS HCP ⊢
  clear h1 HC hh ht hle hnl hnn hgb hl hmx hsz
  go_wp2_with fail
  refine HS.out.mono ?_
  rintro e w2 ⟨rfl, h2⟩
  have HP := Lib.hid (HCP.out w2 h2.out.2)
  have HK2 : Hid (KF W w2 ∧ w1.heap.size ≤ w2.heap.size) := ⟨HK1.out.1.trans_new h2.out.1 (fun q hq e => by have := HK1.out.2; omega), h2.out.1.size⟩
  clear HS HCP h2
  go_wp2_with fail
  refine HP.out.mono ?_
  rintro e w3 ⟨k3, rfl, h3⟩
  have HE : Hid (KF W w3 ∧ OwnK rolE W.heap.size w3 (.slice (some ⟨g, 0, none⟩) k3 cap) (sortO rolLt l)) := ⟨HK2.out.1.trans_new h3.out.1 (fun q hq e => by have := HK1.out.2; omega), by
   have q := h3.out.2.2
   rw [q.1]
   exact h3.out.2.1.own HK1.out.2.1 (by rw [← q.1]; exact q.2) HMX.out⟩
  clear HP h3 HK2 HK1
  go_wp2_with fail
  go_ret
  exact ⟨_, rfl, HE⟩
end Go.Proofs.YtckikkkdabpjkaaGreat
