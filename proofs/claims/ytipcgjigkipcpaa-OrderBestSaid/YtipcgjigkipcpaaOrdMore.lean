/-
  Orders: one behind another, all as it is, two neighbours changed, where bits come, and whether two are the same.
-/
import Derived.Test.YtipcgjigkipcpaaOrdRows
import Derived.Deep.RegionWith
set_option linter.unusedVariables false
set_option linter.unusedSimpArgs false
set_option linter.unnecessarySimpa false
namespace Go.Proofs.Ytipcgjigkipcpaa
open Go.ChangeShapes Go.WideShapes Go.ChangeAt Go.RowKit Go.Deep NodePlain
/-- One order behind another. -/
def Behind (la lb : List Int) (F : Nat → Int) (i : Nat) : Prop := ∀ (j v : Nat) (x : Int), j < i → la[j]? = some (v : Int) → lb[v]? = some x → F j = x
theorem Behind.step {la lb : List Int} {F : Nat → Int} {i v : Nat} {x : Int} (h : Behind la lb F i) (hi : la[i]? = some (v : Int)) (hv : lb[v]? = some x) : Behind la lb (fun y => if y = i then x else F y) (i + 1) := fun j u y hj hu hy => by
  show (if j = i then x else F j) = y
  by_cases e : j = i
  · subst e
    rw [hi] at hu
    simp only [Option.some.injEq] at hu
    have : v = u := by omega
    subst this
    rw [hv] at hy
    rw [if_pos rfl]
    exact Option.some.inj hy
  · rw [if_neg e]
    exact h j u y (by omega) hu hy
set_option maxRecDepth 100000
set_option maxHeartbeats 1600000
theorem then_no {W : World} {v u : Value} {la lb : List Int} {n m : Nat} (h : ReadsI W v la) (k : ReadsI W u lb) (hl : la.length = n) (hm : lb.length = m) (hn : n ≤ 1000) (hm2 : m ≤ 1000) (ho : (ordB n la && ordB n lb) = false) :
    Calls Try.prog 83 #[v, u] W fun e W' => e = .returned (.slice none 0 0) ∧ W = W' := by
  have HC0 := oright_spec (vars := (n : Int)) (by omega) (by omega) h (by omega)
  have HD0 := oright_spec (vars := (n : Int)) (by omega) (by omega) k (by omega)
  obtain ⟨ao, cap, rfl, hcap, hr⟩ := h
  obtain ⟨bo, bcap, rfl, hbcap, hbr⟩ := k
  rw [hl] at *
  rw [hm] at *
  clear hr hbr
  cases h1 : ordB n la with
  | false =>
    rw [h1] at HC0
    have HC := Lib.hid HC0
    clear ho h1 HD0 HC0
    go_enter Try.func83, Try.ntmps83
    go_wp2_with fail
    refine HC.out.mono ?_
    rintro e w' ⟨rfl, rfl⟩
    go_wp2_with fail
    go_ret
    exact ⟨rfl, rfl⟩
  | true =>
    rw [h1, Bool.true_and] at ho
    rw [h1] at HC0
    rw [ho] at HD0
    have HC := Lib.hid HC0
    have HD := Lib.hid HD0
    clear ho h1 HC0 HD0
    go_enter Try.func83, Try.ntmps83
    go_wp2_with fail
    refine HC.out.mono ?_
    rintro e w' ⟨rfl, rfl⟩
    go_wp2_with fail
    refine HD.out.mono ?_
    rintro e w' ⟨rfl, rfl⟩
    go_wp2_with fail
    go_ret
    exact ⟨rfl, rfl⟩
theorem then_yes {W : World} {v u : Value} {la lb : List Int} {n : Nat} (h : ReadsI W v la) (k : ReadsI W u lb) (hl : la.length = n) (hm : lb.length = n) (hn : n ≤ 1000) (ho : ordB n la = true) (hob : ordB n lb = true) :
    Calls Try.prog 83 #[v, u] W fun e W' => ∃ F, Hid (Behind la lb F n) ∧ IPost n F W e W' := by
  obtain ⟨i0, hi0, hz0, hz1, hz2⟩ := info_parts iinfo
  have HC0 := oright_spec (vars := (n : Int)) (by omega) (by omega) h (by omega)
  have HD0 := oright_spec (vars := (n : Int)) (by omega) (by omega) k (by omega)
  rw [ho] at HC0
  rw [hob] at HD0
  obtain ⟨ao, cap, rfl, hcap, hr⟩ := h
  obtain ⟨bo, bcap, rfl, hbcap, hbr⟩ := k
  rw [hl] at *
  rw [hm] at *
  have HC := Lib.hid HC0
  have HD := Lib.hid HD0
  have HR := Lib.hid hr
  have HQ := Lib.hid hbr
  have HO := Lib.hid ho
  have HOB := Lib.hid hob
  have HL := Lib.hid hl
  have hn61 : n ≤ 61 := by have := (ordB_iff.1 ho).2.1; omega
  clear hr hbr ho hob hl hm HC0 HD0
  go_enter Try.func83, Try.ntmps83
  go_wp2_with fail
  refine HC.out.mono ?_
  rintro e w' ⟨rfl, rfl⟩
  clear HC
  go_wp2_with fail
  refine HD.out.mono ?_
  rintro e w' ⟨rfl, rfl⟩
  clear HD
  go_wp2_with (at_make; refine wpList_make_full _ rfl _ _ 28 rfl W.heap.size 3 i0 _ 1 Try.underlying28 hi0 hz0 hz1 .i64 .i64 _ _ n rfl rfl rfl rfl (by rw [hz2]; omega) (by unfold maxLen; omega) (Nat.le_refl _) ?_)
  intro w1 hown hgrow
  have k1 : Keeps (fun _ => False) W w1 := (keeps_grown hgrow).mono (fun _ _ h => by cases h)
  have hmade : IRow w1 W.heap.size n (fun _ => 0) := by
    have e := block_of_made (z := #[Value.int .i64 0]) (size := 1) (n := n) (by rw [Nat.mul_one]; exact hown)
    have e2 := imade n
    unfold IRow
    rw [e]
    exact congrArg (fun c => some (Obj.cells c _ _)) e2
  have HK := Lib.hid k1
  have HD := Lib.hid hmade
  clear hown hgrow k1 hmade
  go_wp2_with fail
  go_loopg [25] n (fun g t wy => ∃ (i : Nat) (F : Nat → Int), i ≤ n ∧ g = n - i ∧ t = .int .i64 i ∧ Hid (Keeps (fun _ => False) W wy) ∧ Hid (IRow wy W.heap.size n F) ∧ Hid (Behind la lb F i))
  case atStart => exact ⟨0, _, Nat.zero_le _, rfl, rfl, HK.out, HD.out, fun j _ _ hj => absurd hj (Nat.not_lt_zero _)⟩
  case round =>
    clear HK HD
    obtain ⟨i, F, hi, rfl, rfl, HK, HD, HU⟩ := hrel
    by_cases hlt : i < n
    · have hiI : (i : Int) < (n : Int) := by omega
      obtain ⟨bb, off, rfl, hb, hc⟩ := HR.out (by omega)
      obtain ⟨cb, coff, rfl, hb2, hc2⟩ := HQ.out (by omega)
      obtain ⟨k, hk, hx⟩ := ord_get HO.out hlt
      obtain ⟨y, hyn, hy⟩ := ord_get HOB.out hk
      have c : wr.cell? ⟨bb, off + i, none⟩ = some (.int .i64 k) := (HK.out.cell (p := ⟨bb, off + i, none⟩) hb (fun x => x)).trans (hc i k hx)
      have c1 : wr.cell? ⟨cb, coff + k, none⟩ = some (.int .i64 y) := (HK.out.cell (p := ⟨cb, coff + k, none⟩) hb2 (fun x => x)).trans (hc2 k y hy)
      have HX := Lib.hid hx
      have HY := Lib.hid hy
      have hicap : i < cap := by omega
      have hkcap : k < bcap := by omega
      have hkI : (k : Int) < (n : Int) := by omega
      have hk0 : (0 : Int) ≤ (k : Int) := by omega
      have c2 := HD.out.cell hlt
      have fz := free_of_heap HD.out i
      have lb := lt_of_heap HD.out
      have HN : Hid (Keeps (fun _ => False) W (wr.setCell ⟨W.heap.size, i, none⟩ (.int .i64 y)) ∧ IRow (wr.setCell ⟨W.heap.size, i, none⟩ (.int .i64 y)) W.heap.size n (fun x => if x = i then (y : Int) else F x)) :=
        ⟨HK.out.setCell (fun h => absurd h (Nat.lt_irrefl _)) _, HD.out.set hlt y⟩
      have HU2 := Lib.hid (HU.out.step HX.out HY.out)
      clear hc hx hc2 hy HK HD HU
      go_wp2_with fail
      go_roundg (n - (i + 1))
      case measure => omega
      case rel => exact ⟨i + 1, _, by omega, rfl, by go_num, HN.out.1, HN.out.2, HU2.out⟩
    · obtain rfl : i = n := by omega
      have hiI : ¬ (i : Int) < (i : Int) := by omega
      go_wp2_with fail
      go_ret
      exact ⟨F, HU, _, rfl, Nat.le_refl _, HK.out, HD.out⟩
theorem stay_spec (W : World) (n : Nat) (hn : n ≤ 1000) : Calls Try.prog 82 #[.int .i64 n] W (IPost n (fun j => (j : Int)) W) := by
  obtain ⟨i0, hi0, hz0, hz1, hz2⟩ := info_parts iinfo
  go_enter Try.func82, Try.ntmps82
  go_wp2_with (at_make; refine wpList_make_full _ rfl _ _ 28 rfl W.heap.size 3 i0 _ 1 Try.underlying28 hi0 hz0 hz1 .i64 .i64 _ _ n rfl rfl rfl rfl (by rw [hz2]; omega) (by unfold maxLen; omega) (Nat.le_refl _) ?_)
  intro w1 hown hgrow
  have k1 : Keeps (fun _ => False) W w1 := (keeps_grown hgrow).mono (fun _ _ h => by cases h)
  have hmade : IRow w1 W.heap.size n (fun _ => 0) := by
    have e := block_of_made (z := #[Value.int .i64 0]) (size := 1) (n := n) (by rw [Nat.mul_one]; exact hown)
    have e2 := imade n
    unfold IRow
    rw [e]
    exact congrArg (fun c => some (Obj.cells c _ _)) e2
  have HK := Lib.hid k1
  have HD := Lib.hid hmade
  clear hown hgrow k1 hmade
  go_wp2_with fail
  go_loopg [9] n (fun g t wy => ∃ (i : Nat) (F : Nat → Int), i ≤ n ∧ g = n - i ∧ t = .int .i64 i ∧ Hid (Keeps (fun _ => False) W wy) ∧ Hid (IRow wy W.heap.size n F) ∧ Hid (∀ j, j < i → F j = (j : Int)))
  case atStart => exact ⟨0, _, Nat.zero_le _, rfl, rfl, HK.out, HD.out, fun j hj => absurd hj (Nat.not_lt_zero _)⟩
  case round =>
    clear HK HD
    obtain ⟨i, F, hi, rfl, rfl, HK, HD, HU⟩ := hrel
    by_cases hlt : i < n
    · have hiI : (i : Int) < (n : Int) := by omega
      have c2 := HD.out.cell hlt
      have fz := free_of_heap HD.out i
      have lb := lt_of_heap HD.out
      have HN : Hid (Keeps (fun _ => False) W (wr.setCell ⟨W.heap.size, i, none⟩ (.int .i64 i)) ∧ IRow (wr.setCell ⟨W.heap.size, i, none⟩ (.int .i64 i)) W.heap.size n (fun x => if x = i then (i : Int) else F x)) :=
        ⟨HK.out.setCell (fun h => absurd h (Nat.lt_irrefl _)) _, HD.out.set hlt i⟩
      have HU2 : Hid (∀ j, j < i + 1 → (fun x => if x = i then (i : Int) else F x) j = (j : Int)) := fun j hj => by
        show (if j = i then (i : Int) else F j) = j
        by_cases e : j = i
        · rw [if_pos e, e]
        · rw [if_neg e]; exact HU.out j (by omega)
      clear HK HD HU
      go_wp2_with fail
      go_roundg (n - (i + 1))
      case measure => omega
      case rel => exact ⟨i + 1, _, by omega, rfl, by go_num, HN.out.1, HN.out.2, HU2.out⟩
    · obtain rfl : i = n := by omega
      have hiI : ¬ (i : Int) < (i : Int) := by omega
      go_wp2_with fail
      go_ret
      exact ⟨_, rfl, Nat.le_refl _, HK.out, HD.out.congr HU.out⟩
end Go.Proofs.Ytipcgjigkipcpaa
