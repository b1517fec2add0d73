/-
  What is asked of a table of nodes: Len, Vars, Spent, Is, Get, Var.
-/
import Derived.Test.YtipcgjigkipcpaaNodeTab
set_option linter.unusedVariables false
set_option linter.unusedSimpArgs false
namespace Go.Proofs.Ytipcgjigkipcpaa
open Go.ChangeShapes Go.WideShapes Go.ChangeAt Go.RowKit Go.Deep NodePlain

section
variable {w : World} {b bp M : Nat} {vn : Value} {V B : Int} {L : Nat → Nd} {n : Nat} {P : Nat → Nat} {s : Bool}

set_option maxRecDepth 10000 in
theorem tlen_spec (h : TabMem w b bp M vn V B L n P s) (hn : n ≤ 1000000000000) :
    Calls Try.prog 102 #[.pointer (some ⟨b, 0, none⟩)] w fun e w' => e = .returned (.int .i64 n) ∧ w = w' := by
  obtain ⟨ao, cap, rfl, _, _, _⟩ := h.row
  have c2 : w.cell? ⟨b, 2, none⟩ = some (.slice ao n cap) := by rw [cell_of_heap h.obj]; rfl
  go_enter Try.func102, Try.ntmps102
  go_wp2
  go_ret
  exact ⟨rfl, rfl⟩
set_option maxRecDepth 10000 in
theorem tlen_nil (w : World) : Calls Try.prog 102 #[.pointer none] w fun e w' => e = .returned (.int .i64 0) ∧ w = w' := by
  go_enter Try.func102, Try.ntmps102
  go_wp2
  go_ret
  exact ⟨rfl, rfl⟩
set_option maxRecDepth 10000 in
theorem tvars_spec (h : TabMem w b bp M vn V B L n P s) :
    Calls Try.prog 91 #[.pointer (some ⟨b, 0, none⟩)] w fun e w' => e = .returned (.int .i64 V) ∧ w = w' := by
  have c0 : w.cell? ⟨b, 0, none⟩ = some (.int .i64 V) := by rw [cell_of_heap h.obj]; rfl
  go_enter Try.func91, Try.ntmps91
  go_wp2
  go_ret
  exact ⟨rfl, rfl⟩
set_option maxRecDepth 10000 in
theorem tvars_nil (w : World) : Calls Try.prog 91 #[.pointer none] w fun e w' => e = .returned (.int .i64 0) ∧ w = w' := by
  go_enter Try.func91, Try.ntmps91
  go_wp2
  go_ret
  exact ⟨rfl, rfl⟩
set_option maxRecDepth 10000 in
theorem tspent_spec (h : TabMem w b bp M vn V B L n P s) :
    Calls Try.prog 92 #[.pointer (some ⟨b, 0, none⟩)] w fun e w' => e = .returned (.bool s) ∧ w = w' := by
  have c4 : w.cell? ⟨b, 4, none⟩ = some (.bool s) := by rw [cell_of_heap h.obj]; rfl
  go_enter Try.func92, Try.ntmps92
  go_wp2
  go_ret
  exact ⟨rfl, rfl⟩
set_option maxRecDepth 10000 in
theorem tspent_nil (w : World) : Calls Try.prog 92 #[.pointer none] w fun e w' => e = .returned (.bool false) ∧ w = w' := by
  go_enter Try.func92, Try.ntmps92
  go_wp2
  go_ret
  exact ⟨rfl, rfl⟩
set_option maxRecDepth 10000 in
theorem tis_spec (h : TabMem w b bp M vn V B L n P s) (hn : n ≤ 1000000000000) (k : Int) (hk : k ≤ 9223372036854775807) :
    Calls Try.prog 88 #[.pointer (some ⟨b, 0, none⟩), .int .i64 k] w fun e w' => e = .returned (.bool (isN n k)) ∧ w = w' := by
  have L1 := tlen_spec h hn
  have HL := Lib.hid L1; clear L1
  rcases Int.lt_or_le k 0 with h0 | h0
  · have hr : isN n k = false := by simp [isN]; omega
    rw [hr]
    go_enter Try.func88, Try.ntmps88
    go_wp2
    go_ret
    exact ⟨rfl, rfl⟩
  · have hr : isN n k = decide (k < n + 2) := by simp [isN, h0]
    rw [hr]
    go_enter Try.func88, Try.ntmps88
    go_wp2_with (go_at_call 102; refine HL.out.mono ?_; rintro e w' ⟨rfl, rfl⟩)
    go_ret
    exact ⟨rfl, rfl⟩
set_option maxRecDepth 10000 in
theorem tis_nil (w : World) (k : Int) (hk : k ≤ 9223372036854775807) :
    Calls Try.prog 88 #[.pointer none, .int .i64 k] w fun e w' => e = .returned (.bool (isN 0 k)) ∧ w = w' := by
  rcases Int.lt_or_le k 0 with h0 | h0
  · have hr : isN 0 k = false := by simp [isN]; omega
    rw [hr]
    go_enter Try.func88, Try.ntmps88
    go_wp2
    go_ret
    exact ⟨rfl, rfl⟩
  · have hr : isN 0 k = decide (k < 2) := by simp [isN, h0]
    rw [hr]
    go_enter Try.func88, Try.ntmps88
    go_wp2_with (go_at_call 102; refine (tlen_nil _).mono ?_; rintro e w' ⟨rfl, rfl⟩)
    go_ret
    exact ⟨rfl, rfl⟩

/-- A node that there is, or none. -/
def getN (L : Nat → Nd) (n : Nat) (k : Int) : Option Nd := if 2 ≤ k ∧ k < n + 2 then some (L (k - 2).toNat) else none
def GetNPost (r : Option Nd) (w : World) (e : Ending) (w' : World) : Prop :=
  e = .returned (.tuple #[.agg (ndCells (r.getD (0, 0, 0))).toArray, .bool r.isSome]) ∧ Below w.heap.size w w'

set_option maxRecDepth 10000 in
set_option maxHeartbeats 800000 in
theorem tget_spec (h : TabMem w b bp M vn V B L n P s) (hn : n ≤ 1000000000000) (k : Int) (hk0 : -9223372036854775808 ≤ k) (hk : k ≤ 9223372036854775807) :
    Calls Try.prog 89 #[.pointer (some ⟨b, 0, none⟩), .int .i64 k] w (GetNPost (getN L n k) w) := by
  have HI : ∀ W, Keeps (fun _ => False) w W → Calls Try.prog 88 #[.pointer (some ⟨b, 0, none⟩), .int .i64 k] W fun e w' => e = .returned (.bool (isN n k)) ∧ W = w' := fun W hW => tis_spec (h.keeps hW (fun _ _ x => x)) hn k hk
  have HI' := Lib.hid HI; clear HI
  have lb : b < w.heap.size := lt_of_heap h.obj
  rcases Int.lt_or_le k 2 with h2 | h2
  · have hr : getN L n k = none := by unfold getN; rw [if_neg (by omega)]
    rw [hr]
    clear h
    go_enter Try.func89, Try.ntmps89
    go_wp2
    refine bodyPost_ret (v := .tuple #[.agg #[.int .i64 0, .int .i64 0, .int .i64 0], .bool false]) (by simp [results, Try.results89, go_sem]) rfl ⟨rfl, (Below.refl _ _).alloc (Nat.le_refl _) _⟩
  · by_cases hlt : k < n + 2
    · have hr : getN L n k = some (L (k - 2).toNat) := by unfold getN; rw [if_pos ⟨h2, hlt⟩]
      have hi : isN n k = true := by simp [isN]; omega
      rw [hr]
      obtain ⟨ao, cap, rfl, hle, hmx, hrow⟩ := h.row
      unfold maxLen at hmx
      obtain ⟨g, rfl, hg, hrw⟩ := hrow (by omega)
      have c2 : w.cell? ⟨b, 2, none⟩ = some (.slice (some ⟨g, 0, none⟩) n cap) := by rw [cell_of_heap h.obj]; rfl
      obtain ⟨m, rfl⟩ : ∃ m : Nat, k = m + 2 := ⟨(k - 2).toNat, by omega⟩
      obtain ⟨r0, r1, r2⟩ := hrw m (by omega)
      have e2 : ((m : Int) + 2 - 2).toNat = m := by omega
      rw [e2]
      have hmn : (m : Int) < (n : Int) := by omega
      have hsub : IntKind.i64.wrap ((m : Int) + 2 - 2) = m := (IntWalk.i64_in _ (by omega)).trans (by omega)
      obtain ⟨⟨a0, a1, a2⟩, hLi⟩ : ∃ p, p = L m := ⟨_, rfl⟩
      rw [← hLi] at r0 r1 r2 ⊢
      simp only [] at r0 r1 r2
      have hmI : (m : Int) ≤ 1000000000000 := by omega
      clear h hrow hrw hr e2 hLi hn hk hlt hmx
      go_enter Try.func89, Try.ntmps89
      go_wp2_with (go_at_call 88; refine (HI'.out _ ((Keeps.refl _ _).alloc _)).mono ?_; rintro e w' ⟨rfl, rfl⟩; rw [hi])
      refine bodyPost_ret (v := .tuple #[.agg #[.int .i64 a0, .int .i64 a1, .int .i64 a2], .bool true]) (by simp [results, Try.results89, go_sem]) rfl ⟨rfl, (Below.refl _ _).alloc (Nat.le_refl _) _⟩
    · have hr : getN L n k = none := by unfold getN; rw [if_neg (by omega)]
      have hi : isN n k = false := by simp [isN]; omega
      rw [hr]
      clear h hr
      go_enter Try.func89, Try.ntmps89
      go_wp2_with (go_at_call 88; refine (HI'.out _ ((Keeps.refl _ _).alloc _)).mono ?_; rintro e w' ⟨rfl, rfl⟩; rw [hi])
      refine bodyPost_ret (v := .tuple #[.agg #[.int .i64 0, .int .i64 0, .int .i64 0], .bool false]) (by simp [results, Try.results89, go_sem]) rfl ⟨rfl, (Below.refl _ _).alloc (Nat.le_refl _) _⟩
set_option maxRecDepth 10000 in
set_option maxHeartbeats 800000 in
theorem tget_nil (w : World) (k : Int) (hk0 : -9223372036854775808 ≤ k) (hk : k ≤ 9223372036854775807) :
    Calls Try.prog 89 #[.pointer none, .int .i64 k] w (GetNPost none w) := by
  rcases Int.lt_or_le k 2 with h2 | h2
  · go_enter Try.func89, Try.ntmps89
    go_wp2
    refine bodyPost_ret (v := .tuple #[.agg #[.int .i64 0, .int .i64 0, .int .i64 0], .bool false]) (by simp [results, Try.results89, go_sem]) rfl ⟨rfl, (Below.refl _ _).alloc (Nat.le_refl _) _⟩
  · have hi : isN 0 k = false := by simp [isN]; omega
    have HI := Lib.hid (fun W => tis_nil W k hk)
    go_enter Try.func89, Try.ntmps89
    go_wp2_with (go_at_call 88; refine (HI.out _).mono ?_; rintro e w' ⟨rfl, rfl⟩; rw [hi])
    refine bodyPost_ret (v := .tuple #[.agg #[.int .i64 0, .int .i64 0, .int .i64 0], .bool false]) (by simp [results, Try.results89, go_sem]) rfl ⟨rfl, (Below.refl _ _).alloc (Nat.le_refl _) _⟩

theorem getN_var {V : Int} {L : Nat → Nd} {n : Nat} {k : Int} : varN V L n k = match getN L n k with | some x => x.1 | none => V := by
  unfold varN getN
  split <;> rfl

set_option maxRecDepth 10000 in
set_option maxHeartbeats 800000 in
theorem tvar_spec (h : TabMem w b bp M vn V B L n P s) (hn : n ≤ 1000000000000) (k : Int) (hk0 : -9223372036854775808 ≤ k) (hk : k ≤ 9223372036854775807) :
    Calls Try.prog 94 #[.pointer (some ⟨b, 0, none⟩), .int .i64 k] w fun e w' => e = .returned (.int .i64 (varN V L n k)) ∧ Below w.heap.size w w' := by
  have hg := tget_spec h hn k hk0 hk
  have HV : ∀ W, Keeps (fun _ => False) w W → Calls Try.prog 91 #[.pointer (some ⟨b, 0, none⟩)] W fun e w' => e = .returned (.int .i64 V) ∧ W = w' := fun W hW => tvars_spec (h.keeps hW (fun _ _ x => x))
  rw [getN_var]
  have HG := Lib.hid hg; have HV' := Lib.hid HV
  clear hg HV h
  cases hr : getN L n k with
  | none =>
    rw [hr] at HG
    go_enter Try.func94, Try.ntmps94
    go_wp2_with fail
    refine HG.out.mono ?_
    rintro e w1 ⟨rfl, hb⟩
    simp only [ndCells, Option.getD_none, Option.isSome_none]
    go_wp2_with (go_at_call 91; refine (HV'.out _ ((Keeps.of_below hb (Nat.le_refl _)).alloc _)).mono ?_; rintro e w' ⟨rfl, rfl⟩)
    go_ret
    exact ⟨rfl, hb.alloc hb.size _⟩
  | some x =>
    obtain ⟨a0, a1, a2⟩ := x
    rw [hr] at HG
    go_enter Try.func94, Try.ntmps94
    go_wp2_with fail
    refine HG.out.mono ?_
    rintro e w1 ⟨rfl, hb⟩
    simp only [ndCells, Option.getD_some, Option.isSome_some]
    go_wp2
    go_ret
    exact ⟨rfl, hb.alloc hb.size _⟩
end
end Go.Proofs.Ytipcgjigkipcpaa
