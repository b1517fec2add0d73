/-
 The order of texts and of roles: the program's and the document's.
-/
import Derived.Test.YtckikkkdabpjkaaGreatKitSq
import Derived.Test.YtckikkkdabpjkaaGreatMB
import Derived.Test.YtckikkkdabpjkaaGreatStmShelf
import Derived.Test.YtckikkkdabpjkaaGreatMA
import Derived.Test.YtckikkkdabpjkaaGreatKit
import Derived.Deep.Light
import Derived.Lib.Hide
import Derived.Deep.LoopGhost
import Derived.BigQuiet
import Derived.Deep.QuietTactic
import Derived.Deep.RegionHeld3
import Derived.WalkLawsBesides
set_option linter.unusedVariables false
set_option linter.unusedSimpArgs false
set_option linter.unnecessarySimpa false
namespace Go.Proofs.YtckikkkdabpjkaaGreat
open Go.ChangeShapes Go.WideShapes Go.ChangeAt Go.RowKit Go.Deep
theorem compareB : ∀ (a b : Str), Lib.compareBytes a b = cmpO (fun x y : Str => x < y) a b
 | [], [] => by unfold cmpO; rw [if_neg (List.lt_irrefl []), if_neg (List.lt_irrefl [])]; rfl
 | [], y :: b => by
  have h : ([] : Str) < y :: b := List.nil_lt_cons y b
  unfold cmpO; rw [if_pos h]; rfl
 | x :: a, [] => by
  have h : ([] : Str) < x :: a := List.nil_lt_cons x a
  have h2 : ¬ (x :: a) < ([] : Str) := fun k => str_irrefl _ (str_trans h k)
  unfold cmpO; rw [if_neg h2, if_pos h]; rfl
 | x :: a, y :: b => by
  show (if x < y then -1 else if y < x then 1 else Lib.compareBytes a b) = _
  rw [compareB a b]
  unfold cmpO
  by_cases h : x < y
  ·have h1 : (x :: a) < (y :: b) := List.cons_lt_cons_iff.2 (.inl h)
   rw [if_pos h, if_pos h1]
  ·rw [if_neg h]
   by_cases k : y < x
   ·have h1 : (y :: b) < (x :: a) := List.cons_lt_cons_iff.2 (.inl k)
    have h2 : ¬ (x :: a) < (y :: b) := fun q => str_irrefl _ (str_trans h1 q)
    rw [if_pos k, if_neg h2, if_pos h1]
   ·rw [if_neg k]
    have e : x = y := UInt8.le_antisymm (UInt8.not_lt.1 k) (UInt8.not_lt.1 h)
    subst e
    have h1 : ((x :: a) < (x :: b)) ↔ a < b := by rw [List.cons_lt_cons_iff]; simp
    have h2 : ((x :: b) < (x :: a)) ↔ b < a := by rw [List.cons_lt_cons_iff]; simp
    simp only [h1, h2]
/-- The first of numbers that is not nought. -/
def orI : List Int → Int
 | [] => 0
 | x :: l => if x = 0 then orI l else x
section
variable {W : World}
set_option maxRecDepth 100000
set_option maxHeartbeats 1600000
theorem strcmp_spec (a b : Str) : Calls Tryz.prog 187 #[.string ⟨a.toArray⟩, .string ⟨b.toArray⟩] W fun e W' => e = .returned (.int .i64 (cmpO (fun x y : Str => x < y) a b)) ∧ W = W' := by
 refine (shelfstrings_Compare ⟨a.toArray⟩ ⟨b.toArray⟩ W).mono ?_
 rintro e W' ⟨rfl, rfl⟩
 exact ⟨by rw [← compareB], rfl⟩
theorem cmpor_spec {g n : Nat} {l : List Int} (hn : l.length = n) (hn9 : n ≤ 1000000) (hc : ∀ (j : Nat) (x : Int), l[j]? = some x → W.cell? ⟨g, j, none⟩ = some (.int .i64 x)) :
 Calls Tryz.prog 184 #[.slice (some ⟨g, 0, none⟩) n n] W fun e W' => e = .returned (.int .i64 (orI l)) ∧ W = W' := by
 have HC := Lib.hid hc
 have HN := Lib.hid hn
 have HT : Hid (∀ i, i ≤ n → (∀ (j : Nat) (x : Int), j < i → l[j]? = some x → x = 0) → orI l = orI (l.drop i)) := by
  intro i
  induction i with
  | zero => intro _ _; rfl
  | succ i ih =>
   intro hi h
   have h1 := ih (by omega) (fun j x hj hx => h j x (by omega) hx)
   obtain ⟨x, hx⟩ : ∃ x, l[i]? = some x := ⟨_, List.getElem?_eq_getElem (by omega)⟩
   have hd : l.drop i = x :: l.drop (i + 1) := by
    obtain ⟨h2, h3⟩ := List.getElem?_eq_some_iff.1 hx
    rw [← h3]; exact List.drop_eq_getElem_cons h2
   rw [h1, hd, h i x (by omega) hx]
   rfl
 obtain ⟨res, hres⟩ : ∃ r, orI l = r := ⟨_, rfl⟩
 rw [hres] at HT ⊢
 clear hc hn hres
 go_enter Tryz.func184, Tryz.ntmps184
 go_wp2_with fail
 go_loopg [8] n (fun gg t wy => ∃ i : Nat, i ≤ n ∧ gg = n - i ∧ t = .int .i64 i ∧ Hid (∀ (j : Nat) (x : Int), j < i → l[j]? = some x → x = 0) ∧ wy = W)
 case atStart => exact ⟨0, Nat.zero_le _, rfl, rfl, fun j x h => absurd h (Nat.not_lt_zero j), rfl⟩
 case round =>
  obtain ⟨i, hi, rfl, rfl, HI, rfl⟩ := hrel
  by_cases hlt : i < n
  ·have hiI : (i : Int) < (n : Int) := by omega
   have hwi : IntKind.i64.wrap ((i : Int) + 1) = (i : Int) + 1 := IntWalk.i64_in _ (by omega)
   obtain ⟨x, hx⟩ : ∃ x, l[i]? = some x := ⟨_, List.getElem?_eq_getElem (by have := HN.out; omega)⟩
   have c := HC.out i x hx
   have HX := Lib.hid hx
   clear hx
   by_cases e : x = 0
   ·have HN2 : Hid (∀ (j : Nat) (y : Int), j < i + 1 → l[j]? = some y → y = 0) := fun j y hj hy => by
     rcases Nat.lt_or_eq_of_le (Nat.le_of_lt_succ hj) with h | h
     ·exact HI.out j y h hy
     ·subst h; rw [HX.out] at hy; cases hy; exact e
    subst e
    clear HI HX
    go_wp2_with fail
    go_roundg (n - (i + 1))
    case measure => omega
    case rel => exact ⟨i + 1, by omega, rfl, by go_num, HN2, rfl⟩
   ·have HE : res = x := by
     obtain ⟨h2, h3⟩ := List.getElem?_eq_some_iff.1 HX.out
     have hd : l.drop i = x :: l.drop (i + 1) := by rw [← h3]; exact List.drop_eq_getElem_cons h2
     rw [HT.out i hi HI.out, hd]
     exact if_neg e
    have e1 : (x != 0) = true := by simpa using e
    subst HE
    clear e HI HX HT
    go_wp2_with fail
    go_ret
    exact ⟨rfl, rfl⟩
  ·have hin : i = n := by omega
   have hiI : ¬ (i : Int) < (n : Int) := by omega
   have HE : res = 0 := by
    rw [HT.out i hi HI.out, List.drop_eq_nil_of_le (by have := HN.out; omega)]
    rfl
   subst HE
   clear HI HT hin
   go_wp2_with fail
   go_ret
   exact ⟨rfl, rfl⟩
def rolV2 (r : Rol) : Value := .agg #[.string ⟨r.1.toArray⟩, .string ⟨r.2.toArray⟩]
theorem orderR (a b : Rol) : orI [cmpO (fun x y : Str => x < y) a.1 b.1, cmpO (fun x y : Str => x < y) a.2 b.2] = cmpO rolLt a b := by
 show (if _ = 0 then (if _ = 0 then 0 else _) else _) = _
 rw [show cmpO rolLt a b = _ from cmpO_lex strO a b]
 by_cases h : cmpO (fun x y : Str => x < y) a.1 b.1 = 0
 ·rw [if_pos h, if_pos h]
  split
  ·rename_i h2; exact h2.symm
  ·rfl
 ·rw [if_neg h, if_neg h]
theorem sorder_grw (a b : Rol) : Calls Tryz.prog 185 #[rolV2 a, rolV2 b] W fun e W' => e = .returned (.int .i64 (cmpO rolLt a b)) ∧ Hid (Grw W W') := by
 obtain ⟨a1, a2⟩ := a
 obtain ⟨b1, b2⟩ := b
 have HO := Lib.hid (orderR (a1, a2) (b1, b2))
 have HC1 : Hid (∀ W : World, Calls Tryz.prog 187 #[.string ⟨a1.toArray⟩, .string ⟨b1.toArray⟩] W fun e W' => e = .returned (.int .i64 (cmpO (fun x y : Str => x < y) a1 b1)) ∧ W = W') := fun W => strcmp_spec a1 b1
 have HC2 : Hid (∀ W : World, Calls Tryz.prog 187 #[.string ⟨a2.toArray⟩, .string ⟨b2.toArray⟩] W fun e W' => e = .returned (.int .i64 (cmpO (fun x y : Str => x < y) a2 b2)) ∧ W = W') := fun W => strcmp_spec a2 b2
 obtain ⟨x, hx⟩ : ∃ x, cmpO (fun x y : Str => x < y) a1 b1 = x := ⟨_, rfl⟩
 obtain ⟨y, hy⟩ : ∃ x, cmpO (fun x y : Str => x < y) a2 b2 = x := ⟨_, rfl⟩
 simp only at HO
 rw [hx, hy] at HO
 rw [hx] at HC1
 rw [hy] at HC2
 rw [← HO.out]
 have HOR : Hid (∀ (W : World) (g : Nat), W.cell? ⟨g, 0, none⟩ = some (.int .i64 x) → W.cell? ⟨g, 1, none⟩ = some (.int .i64 y) → Calls Tryz.prog 184 #[.slice (some ⟨g, 0, none⟩) 2 2] W fun e W' => e = .returned (.int .i64 (orI [x, y])) ∧ W = W') := fun W g h0 h1 => cmpor_spec (n := 2) rfl (by omega) (fun j z hj => by
  match j, hj with
  | 0, hj => simp at hj; subst hj; exact h0
  | 1, hj => simp at hj; subst hj; exact h1
  | j + 2, hj => simp at hj)
 obtain ⟨r, hr⟩ : ∃ r, orI [x, y] = r := ⟨_, rfl⟩
 rw [hr] at HOR ⊢
 clear hx hy hr HO
 obtain ⟨WA, hWA⟩ : ∃ WA, W.alloc (bR a1 a2) = WA := ⟨_, rfl⟩
 have hal := (MapKept.heap_alloc W (bR a1 a2)).1
 have hkA : Grw W WA := by rw [← hWA]; exact (Grw.refl _).alloc _
 rw [hWA] at hal
 obtain ⟨WB, hWB⟩ : ∃ WB, WA.alloc (bR b1 b2) = WB := ⟨_, rfl⟩
 have hal2 := (MapKept.heap_alloc WA (bR b1 b2)).1
 have hkB : Grw WA WB := by rw [← hWB]; exact (Grw.refl _).alloc _
 rw [hWB] at hal2
 have halB := (hkB.block _ (lt_of_heap hal) (fun x => x)).trans hal
 have c0 := cell_of_heap halB 0
 have c1 := cell_of_heap halB 1
 have d0 := cell_of_heap hal2 0
 have d1 := cell_of_heap hal2 1
 simp only [List.getElem?_toArray, List.getElem?_cons_zero, List.getElem?_cons_succ] at c0 c1 d0 d1
 have HKB : Hid (Grw W WB ∧ W.heap.size < WB.heap.size ∧ WA.heap.size < WB.heap.size) := ⟨hkA.trans hkB, lt_of_heap halB, lt_of_heap hal2⟩
 clear hal halB hal2 hkA hkB
 unfold rolV2
 go_enter Tryz.func185, Tryz.ntmps185
 go_upto_region 1 with fail
 have HS : Hid (∀ W W2 : World, (W.cell? ⟨W.heap.size, 0, none⟩ = Option.none) → True) := fun _ _ _ => trivial
 have KS : Hid (∀ W' W'' : World, (W'.cell? ⟨W.heap.size, 0, none⟩ = some (.string ⟨a1.toArray⟩) ∧ W'.cell? ⟨W.heap.size, 1, none⟩ = some (.string ⟨a2.toArray⟩) ∧ W'.cell? ⟨WA.heap.size, 0, none⟩ = some (.string ⟨b1.toArray⟩) ∧ W'.cell? ⟨WA.heap.size, 1, none⟩ = some (.string ⟨b2.toArray⟩) ∧ Hid (Grw W W' ∧ W.heap.size < W'.heap.size ∧ WA.heap.size < W'.heap.size)) → Grw W' W'' → (W''.cell? ⟨W.heap.size, 0, none⟩ = some (.string ⟨a1.toArray⟩) ∧ W''.cell? ⟨W.heap.size, 1, none⟩ = some (.string ⟨a2.toArray⟩) ∧ W''.cell? ⟨WA.heap.size, 0, none⟩ = some (.string ⟨b1.toArray⟩) ∧ W''.cell? ⟨WA.heap.size, 1, none⟩ = some (.string ⟨b2.toArray⟩) ∧ Hid (Grw W W'' ∧ W.heap.size < W''.heap.size ∧ WA.heap.size < W''.heap.size))) := fun W' W'' h hk =>
  ⟨(hk.cell (p := ⟨W.heap.size, 0, none⟩) h.2.2.2.2.out.2.1 (fun x => x)).trans h.1, (hk.cell (p := ⟨W.heap.size, 1, none⟩) h.2.2.2.2.out.2.1 (fun x => x)).trans h.2.1, (hk.cell (p := ⟨WA.heap.size, 0, none⟩) h.2.2.2.2.out.2.2 (fun x => x)).trans h.2.2.1, (hk.cell (p := ⟨WA.heap.size, 1, none⟩) h.2.2.2.2.out.2.2 (fun x => x)).trans h.2.2.2.1, h.2.2.2.2.out.1.trans hk, Nat.lt_of_lt_of_le h.2.2.2.2.out.2.1 hk.size, Nat.lt_of_lt_of_le h.2.2.2.2.out.2.2 hk.size⟩
 have HB0 : Hid (WB.cell? ⟨W.heap.size, 0, none⟩ = some (.string ⟨a1.toArray⟩) ∧ WB.cell? ⟨W.heap.size, 1, none⟩ = some (.string ⟨a2.toArray⟩) ∧ WB.cell? ⟨WA.heap.size, 0, none⟩ = some (.string ⟨b1.toArray⟩) ∧ WB.cell? ⟨WA.heap.size, 1, none⟩ = some (.string ⟨b2.toArray⟩) ∧ Hid (Grw W WB ∧ W.heap.size < WB.heap.size ∧ WA.heap.size < WB.heap.size)) := ⟨c0, c1, d0, d1, HKB⟩
 clear hWA hWB HKB HS
 go_region_held3 (fun w' => w'.cell? ⟨W.heap.size, 0, none⟩ = some (.string ⟨a1.toArray⟩) ∧ w'.cell? ⟨W.heap.size, 1, none⟩ = some (.string ⟨a2.toArray⟩) ∧ w'.cell? ⟨WA.heap.size, 0, none⟩ = some (.string ⟨b1.toArray⟩) ∧ w'.cell? ⟨WA.heap.size, 1, none⟩ = some (.string ⟨b2.toArray⟩) ∧ Hid (Grw W w' ∧ W.heap.size < w'.heap.size ∧ WA.heap.size < w'.heap.size)) (first | assumption | exact KS.out _ _ (by assumption) hk' | exact KS.out _ _ HB0.out ((Grw.refl _).drew) | exact KS.out _ _ (by assumption) ((Grw.refl _).alloc _) | exact KS.out _ _ (by assumption) ((Grw.refl _).drew)) ((first | (go_at_call_of 187 a1; refine (HC1.out _).mono ?_; rintro e w' ⟨rfl, rfl⟩) | (go_at_call 187; refine (HC2.out _).mono ?_; rintro e w' ⟨rfl, rfl⟩) | (go_at_call 184; refine (HOR.out _ _ (by simp [go_sem]) (by simp [go_sem])).mono ?_; rintro e w' ⟨rfl, rfl⟩)))
 all_goals
  go_wp2_with fail
  go_ret
  rename_i hh
  exact ⟨rfl, hh.2.2.2.2.out.1⟩
theorem cmp_lt {α : Type} {p : α → α → Prop} [DecidableRel p] (o : LO p) (a b : α) : decide (cmpO p a b < 0) = decide (p a b) := by
 unfold cmpO
 by_cases h : p a b
 ·rw [if_pos h, decide_eq_true h]; rfl
 ·rw [if_neg h, decide_eq_false h]
  split <;> rfl
theorem sless_grw (a b : Rol) : Calls Tryz.prog 166 #[rolV2 a, rolV2 b] W fun e W' => e = .returned (.bool (decide (rolLt a b))) ∧ Hid (Grw W W') := by
 have HL := Lib.hid (cmp_lt rolO a b)
 have HS : Hid (∀ W : World, Calls Tryz.prog 185 #[rolV2 a, rolV2 b] W fun e W' => e = .returned (.int .i64 (cmpO rolLt a b)) ∧ Hid (Grw W W')) := fun W => sorder_grw a b
 obtain ⟨r, hr⟩ : ∃ r, decide (rolLt a b) = r := ⟨_, rfl⟩
 obtain ⟨c, hc⟩ : ∃ c, cmpO rolLt a b = c := ⟨_, rfl⟩
 rw [hr, hc] at HL
 rw [hr]
 rw [hc] at HS
 obtain ⟨a1, a2⟩ := a
 obtain ⟨b1, b2⟩ := b
 have HK : Hid (Grw W ((W.alloc (bR a1 a2)).alloc (bR b1 b2))) := ((Grw.refl _).alloc _).alloc _
 clear hr hc
 unfold rolV2 at *
 go_enter Tryz.func166, Tryz.ntmps166
 go_wp2_with fail
 refine (HS.out _).mono ?_
 rintro e w1 ⟨rfl, h1⟩
 have HE : Hid (Grw W w1) := HK.out.trans h1.out
 clear HS h1 HK
 go_wp2_with fail
 go_ret
 exact ⟨by rw [← HL.out]; rfl, HE⟩
theorem sless_spec (a b : Rol) : Calls Tryz.prog 166 #[rolV2 a, rolV2 b] W fun e W' => e = .returned (.bool (decide (rolLt a b))) ∧ Hid (KF W W') := (sless_grw a b).mono fun _ _ h => ⟨h.1, h.2.out.toKeeps⟩
theorem rless_spec (a b : Rol) : Calls Tryz.prog 52 #[rolV2 a, rolV2 b] W fun e W' => e = .returned (.bool (decide (rolLt a b))) ∧ Hid (KF W W') := by
 obtain ⟨a1, a2⟩ := a
 obtain ⟨b1, b2⟩ := b
 have HK : Hid (KF W ((W.alloc (bR a1 a2)).alloc (bR b1 b2))) := ((Keeps.refl _ _).alloc _).alloc _
 unfold rolV2
 by_cases e : a1 = b1
 ·subst e
  obtain ⟨r, hr⟩ : ∃ r, decide (a2 < b2) = r := ⟨_, rfl⟩
  have hlt : decide (rolLt (a1, a2) (a1, b2)) = r := by
   rw [← hr]
   refine decide_eq_decide.2 ⟨fun h => h.elim (fun k => absurd k (str_irrefl a1)) (fun k => k.2), fun h => .inr ⟨rfl, h⟩⟩
  have hbl : Op.bytesLess a2 b2 = r := by rw [Go.Proofs.bytesLess_eq]; exact hr
  rw [hlt]
  clear hlt hr
  go_enter Tryz.func52, Tryz.ntmps52
  go_wp2_with fail
  go_ret
  exact ⟨rfl, HK⟩
 ·obtain ⟨r, hr⟩ : ∃ r, decide (a1 < b1) = r := ⟨_, rfl⟩
  have hlt : decide (rolLt (a1, a2) (b1, b2)) = r := by
   rw [← hr]
   refine decide_eq_decide.2 ⟨fun h => h.elim id (fun k => absurd k.1 e), fun h => .inl h⟩
  have hbl : Op.bytesLess a1 b1 = r := by rw [Go.Proofs.bytesLess_eq]; exact hr
  have hbe : (a1 == b1) = false := beq_eq_false_iff_ne.2 e
  rw [hlt]
  clear hlt hr e
  go_enter Tryz.func52, Tryz.ntmps52
  go_wp2_with fail
  go_ret
  exact ⟨rfl, HK⟩
end
end Go.Proofs.YtckikkkdabpjkaaGreat
