/-
 Two roles, two statements, compared.
-/
import Derived.Test.YtckikkkdabpjkaaGreatMC
import Derived.Laws.StructEq
set_option linter.unusedVariables false
set_option linter.unusedSimpArgs false
set_option linter.unnecessarySimpa false
namespace Go.Proofs.YtckikkkdabpjkaaGreat
open Go.ChangeShapes Go.WideShapes Go.ChangeAt Go.RowKit Go.Deep
set_option maxRecDepth 100000
set_option maxHeartbeats 3200000
theorem rol_equalIn (x y : Rol) (w : World) : (Op.equalIn 10000 28 (.agg (rolEnc x).toArray) (.agg (rolEnc y).toArray)).run Tryz.prog w = .ok (decide (x = y)) w := by
 obtain ⟨x1, x2⟩ := x
 obtain ⟨y1, y2⟩ := y
 by_cases h1 : x1 = y1
 ·subst h1
  by_cases h2 : x2 = y2
  ·subst h2
   simp [rolEnc, go_sem]
  ·have hb := beq_eq_false_iff_ne.2 h2
   simp [rolEnc, go_sem, hb, h2]
 ·have hb := beq_eq_false_iff_ne.2 h1
  simp [rolEnc, go_sem, hb, h1]
theorem rol_eql (x y : Rol) (w : World) : (binOp .eql 28 (.agg (rolEnc x).toArray) (.agg (rolEnc y).toArray)).run Tryz.prog w = .ok (.bool (decide (x = y))) w := by
 rw [run_eql_struct, rol_equalIn]
 rfl
theorem rol_neq (x y : Rol) (w : World) : (binOp .neq 28 (.agg (rolEnc x).toArray) (.agg (rolEnc y).toArray)).run Tryz.prog w = .ok (.bool (!decide (x = y))) w := by
 rw [run_neq_struct, rol_equalIn]
 rfl
theorem stm_equalIn (x y : Stm) (w : World) : (Op.equalIn 10000 38 (.agg (stmEnc x).toArray) (.agg (stmEnc y).toArray)).run Tryz.prog w = .ok (decide (x = y)) w := by
 obtain ⟨⟨x1, x2⟩, x0, x3, ⟨x4, x5⟩, ⟨x6, x7⟩, x8⟩ := x
 obtain ⟨⟨y1, y2⟩, y0, y3, ⟨y4, y5⟩, ⟨y6, y7⟩, y8⟩ := y
 by_cases h0 : x0 = y0
 ·subst h0
  by_cases h1 : x1 = y1
  ·subst h1
   by_cases h2 : x2 = y2
   ·subst h2
    by_cases h3 : x3 = y3
    ·subst h3
     by_cases h4 : x4 = y4
     ·subst h4
      by_cases h5 : x5 = y5
      ·subst h5
       by_cases h6 : x6 = y6
       ·subst h6
        by_cases h7 : x7 = y7
        ·subst h7
         by_cases h8 : x8 = y8
         ·subst h8
          simp [stmEnc, go_sem]
         ·have hb := beq_eq_false_iff_ne.2 h8
          simp [stmEnc, go_sem, hb, h8]
        ·have hb := beq_eq_false_iff_ne.2 h7
         simp [stmEnc, go_sem, hb, h7]
       ·have hb := beq_eq_false_iff_ne.2 h6
        simp [stmEnc, go_sem, hb, h6]
      ·have hb := beq_eq_false_iff_ne.2 h5
       simp [stmEnc, go_sem, hb, h5]
     ·have hb := beq_eq_false_iff_ne.2 h4
      simp [stmEnc, go_sem, hb, h4]
    ·have hb := beq_eq_false_iff_ne.2 h3
     simp [stmEnc, go_sem, hb, h3]
   ·have hb := beq_eq_false_iff_ne.2 h2
    simp [stmEnc, go_sem, hb, h2]
  ·have hb := beq_eq_false_iff_ne.2 h1
   simp [stmEnc, go_sem, hb, h1]
 ·have hb := beq_eq_false_iff_ne.2 h0
  simp [stmEnc, go_sem, hb, h0]
theorem stm_eql (x y : Stm) (w : World) : (binOp .eql 38 (.agg (stmEnc x).toArray) (.agg (stmEnc y).toArray)).run Tryz.prog w = .ok (.bool (decide (x = y))) w := by
 rw [run_eql_struct, stm_equalIn]
 rfl
theorem stm_neq (x y : Stm) (w : World) : (binOp .neq 38 (.agg (stmEnc x).toArray) (.agg (stmEnc y).toArray)).run Tryz.prog w = .ok (.bool (!decide (x = y))) w := by
 rw [run_neq_struct, stm_equalIn]
 rfl
section
variable {α : Type} {E : Elt α}
/-- What stands behind a row's start may change. -/
theorem HoK.past {w : World} {g : Nat} {l : List α} (h : HoK E w g 0 l) (n : Nat) (vs : List Value) : HoK E (w.setCells g (n * E.k) vs) g 0 (l.take n) ∧ Keeps (fun q => q = g) w (w.setCells g (n * E.k) vs) := by
 have hk : Keeps (fun q => q = g) w (w.setCells g (n * E.k) vs) := Keeps.setCells (S := fun q => q = g) g (fun _ => rfl) _ _ _ (Keeps.refl _ _)
 refine ⟨⟨Nat.lt_of_lt_of_le h.1 hk.size, fun j x hj i u hu => ?_⟩, hk⟩
 have hil : i < E.k := by
  rcases Nat.lt_or_ge i (E.enc x).length with q | q
  ·rw [E.len] at q; exact q
  ·rw [List.getElem?_eq_none q] at hu; cases hu
 rw [List.getElem?_take] at hj
 split at hj
 ·rename_i hjn
  have hh := h.2 j x hj i u hu
  rw [frozen_setCells]
  refine ⟨?_, hh.2⟩
  rw [World.cell?_setCells_out g _ _ _ _ (fun _ _ => ?_)]
  ·exact hh.1
  ·left
   show 0 + j * E.k + i < n * E.k
   have := Nat.mul_le_mul_right E.k (show j + 1 ≤ n from hjn)
   rw [Nat.add_mul, Nat.one_mul] at this
   omega
 ·cases hj
theorem HoK.there {w : World} {g : Nat} {l : List α} (h : HoK E w g 0 l) {n : Nat} (j : Nat) (hj : n * E.k + j < l.length * E.k) : (w.cell? ⟨g, n * E.k + j, none⟩).isSome = true ∧ w.frozen? ⟨g, n * E.k + j, none⟩ = false := by
 have hdiv : (n * E.k + j) / E.k < l.length := (Nat.div_lt_iff_lt_mul E.pos).2 hj
 obtain ⟨x, hx⟩ : ∃ x, l[(n * E.k + j) / E.k]? = some x := ⟨_, List.getElem?_eq_getElem hdiv⟩
 have hm : (n * E.k + j) % E.k < (E.enc x).length := by rw [E.len]; exact Nat.mod_lt _ E.pos
 have hh := h.2 _ x hx _ _ (List.getElem?_eq_getElem hm)
 have e : 0 + (n * E.k + j) / E.k * E.k + (n * E.k + j) % E.k = n * E.k + j := by rw [Nat.zero_add, Nat.mul_comm]; exact Nat.div_add_mod _ _
 rw [e] at hh
 exact ⟨by rw [hh.1]; rfl, hh.2⟩
end
def rolZero (n : Nat) : List Value := (Builtin.zeroCells (rolE.z).cells n).toList
theorem rolZero_len (n : Nat) : (rolZero n).length = n * 2 := by
 unfold rolZero Builtin.zeroCells
 simp
 rfl
theorem rolZero_one (n : Nat) : ∀ v ∈ rolZero n, v.oneCell' = true := by
 intro v hv
 obtain ⟨j, hj, rfl⟩ := List.mem_iff_getElem.1 hv
 simp only [rolZero, Builtin.zeroCells, Array.getElem_toList, Array.getElem_map, Array.getElem_range]
 have h6 : j % 2 < 2 := Nat.mod_lt _ (by decide)
 show (#[Value.string ⟨#[]⟩, .string ⟨#[]⟩][j % 2]!).oneCell' = true
 match j % 2, h6 with
 | 0, _ => rfl
 | 1, _ => rfl
theorem rol_clear {w : World} {g n : Nat} {l : List Rol} (h : HoK rolE w g 0 l) (hn : n < l.length) (ty : TypeId) (c : Nat) : (Builtin.clear_ #[23] ty #[.slice (some ⟨g, n * 2, none⟩) (l.length - n) c]).run Tryz.prog w = .ok (.tuple #[]) (w.setCells g (n * 2) (rolZero (l.length - n))) :=
 run_clear_any w _ _ ty _ (rolZero (l.length - n)) Tryz.underlying23 Tryz.zeroValue28 g (n * 2) (l.length - n) c (by omega) rfl (rolZero_one _) (fun j hj => (h.there (n := n) j (by
  rw [rolZero_len] at hj
  show n * 2 + j < l.length * 2
  omega)).1) (fun j hj => (h.there (n := n) j (by
  rw [rolZero_len] at hj
  show n * 2 + j < l.length * 2
  omega)).2)
def stmZero (n : Nat) : List Value := (Builtin.zeroCells (stmE.z).cells n).toList
theorem stmZero_len (n : Nat) : (stmZero n).length = n * 9 := by
 unfold stmZero Builtin.zeroCells
 simp
 rfl
theorem stmZero_one (n : Nat) : ∀ v ∈ stmZero n, v.oneCell' = true := by
 intro v hv
 obtain ⟨j, hj, rfl⟩ := List.mem_iff_getElem.1 hv
 simp only [stmZero, Builtin.zeroCells, Array.getElem_toList, Array.getElem_map, Array.getElem_range]
 have h6 : j % 9 < 9 := Nat.mod_lt _ (by decide)
 show (#[Value.int .i64 0, .string ⟨#[]⟩, .string ⟨#[]⟩, .string ⟨#[]⟩, .string ⟨#[]⟩, .string ⟨#[]⟩, .string ⟨#[]⟩, .string ⟨#[]⟩, .string ⟨#[]⟩][j % 9]!).oneCell' = true
 match j % 9, h6 with
 | 0, _ => rfl
 | 1, _ => rfl
 | 2, _ => rfl
 | 3, _ => rfl
 | 4, _ => rfl
 | 5, _ => rfl
 | 6, _ => rfl
 | 7, _ => rfl
 | 8, _ => rfl
theorem stm_clear {w : World} {g n : Nat} {l : List Stm} (h : HoK stmE w g 0 l) (hn : n < l.length) (ty : TypeId) (c : Nat) : (Builtin.clear_ #[22] ty #[.slice (some ⟨g, n * 9, none⟩) (l.length - n) c]).run Tryz.prog w = .ok (.tuple #[]) (w.setCells g (n * 9) (stmZero (l.length - n))) :=
 run_clear_any w _ _ ty _ (stmZero (l.length - n)) Tryz.underlying22 Tryz.zeroValue38 g (n * 9) (l.length - n) c (by omega) rfl (stmZero_one _) (fun j hj => (h.there (n := n) j (by
  rw [stmZero_len] at hj
  show n * 9 + j < l.length * 9
  omega)).1) (fun j hj => (h.there (n := n) j (by
  rw [stmZero_len] at hj
  show n * 9 + j < l.length * 9
  omega)).2)
end Go.Proofs.YtckikkkdabpjkaaGreat
