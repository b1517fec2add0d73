/-
  Where a text is in a table: the library's search in halves, and Find.
-/
import Derived.Test.YtcdfpnlaklaafaaGreatNameMem
import Derived.Laws.AppendOwnNone
set_option linter.unusedVariables false
set_option linter.unusedSimpArgs false
set_option linter.unnecessarySimpa false
namespace Go.Proofs.YtcdfpnlaklaafaaGreat
open Go.ChangeShapes Go.WideShapes Go.ChangeAt Go.RowKit Go.Deep
set_option maxRecDepth 100000
set_option maxHeartbeats 3200000
theorem cnan_spec (s : ByteArray) (w : World) : Calls Tryz.prog 96 #[.string s] w fun e w' => e = .returned (.bool false) ∧ w = w' := by
  go_enter Tryz.func96, Tryz.ntmps96
  go_wp2_with fail
  go_ret
  exact ⟨by simp, rfl⟩
theorem cless_spec (x y : Str) (w : World) : Calls Tryz.prog 81 #[.string ⟨x.toArray⟩, .string ⟨y.toArray⟩] w fun e w' => e = .returned (.bool (decide (x < y))) ∧ w = w' := by
  have HN := Lib.hid (fun s w => cnan_spec s w)
  go_enter Tryz.func81, Tryz.ntmps81
  go_wp2_with fail
  refine (HN.out _ _).mono ?_
  rintro e w' ⟨rfl, rfl⟩
  go_wp2_with fail
  go_ret
  refine ⟨?_, rfl⟩
  rw [← Go.Proofs.bytesLess_eq]
  rfl
end Go.Proofs.YtcdfpnlaklaafaaGreat
/-
  All, At, With of a table; an append of a row that came in; which rows are light.
-/
set_option linter.unusedVariables false
set_option linter.unusedSimpArgs false
set_option linter.unnecessarySimpa false
namespace Go.Proofs.YtcdfpnlaklaafaaGreat
open Go.ChangeShapes Go.WideShapes Go.ChangeAt Go.RowKit Go.Deep
/-- A row of texts that can be appended: nil has no places. -/
def SrcS (w : World) (v : Value) (l : List Str) : Prop := ReadsS w v l ∧ ∀ n cap, v = .slice none n cap → cap = 0
theorem SrcS.keeps {w w' : World} {v : Value} {l : List Str} (h : SrcS w v l) (hk : Keeps (fun _ => False) w w') : SrcS w' v l := ⟨h.1.keeps hk, h.2⟩
/-- An append to a row of the program's own. -/
theorem app_src {ops : Array Oper} {rest : List Oper} {o : Oper} {a : Act} {Q : Exit → Act → World → Prop} {w : World} (hgd : o.guard = none) (s x : Operand)
    (ho : o.op = .call { callee := .builtin .append, args := #[s, x], argTypes := #[47, 47] })
    (base : Nat) (v : Value) (l : List Str) (hs : a.eval s = v) (hown : OwnS base w v l) (xv : Value) (m : List Str) (hx : a.eval x = xv) (hr : SrcS w xv m) (hlen : l.length + m.length ≤ 1000000) (hbase : base ≤ w.heap.size)
    (h : ∀ v' w', OwnS base w' v' (l ++ m) → Keeps (fun q => base ≤ q) w w' → wpList Tryz.prog ops Q rest (a.put o.dst v') w') : wpList Tryz.prog ops Q (o :: rest) a w := by
  obtain ⟨i0, hi0, hz0, hz1, hz2⟩ := info_parts sinfo
  obtain ⟨⟨ao, cap, rfl, hle, hc⟩, hnil⟩ := hr
  have hown' : w.ownsRow base 9 1 v l.length (sCells l) := hown
  have key : ∀ ad, ao = some ad → wpList Tryz.prog ops Q (o :: rest) a w := fun ad had => by
    subst had
    have hcell : ∀ (j : Nat) (u : Value), (sCells m)[j]? = some u → w.cell? (ad.add j) = some u := fun j u hj => by
      unfold sCells at hj
      rw [List.getElem?_map] at hj
      obtain ⟨y, hy, rfl⟩ := Option.map_eq_some_iff.1 hj
      have hm0 : 0 < m.length := by
        rcases Nat.eq_zero_or_pos m.length with h0 | h0
        · rw [List.eq_nil_of_length_eq_zero h0] at hy; cases hy
        · exact h0
      obtain ⟨g, off, e, _, hcc⟩ := hc hm0
      simp only [Option.some.injEq] at e
      subst e
      rw [Addr.add_lit]
      exact hcc j y hy
    refine wpList_append_own w hgd s x 47 ho base 9 i0 (.string ⟨#[]⟩) 1 16 Tryz.underlying47 hi0 hz0 hz1 hz2 rfl (by decide) v l.length (sCells l) hs hown' ad m.length cap (sCells m) hx (by simp [sCells]) hcell (fun u hu => ?_) (by unfold maxLen; omega) (by omega) hbase (fun v' w' h1 h2 _ => h v' w' ?_ ?_)
    · unfold sCells at hu
      obtain ⟨y, _, rfl⟩ := List.mem_map.1 hu
      rfl
    · show w'.ownsRow base 9 1 v' (l ++ m).length (sCells (l ++ m))
      rw [List.length_append, show sCells (l ++ m) = sCells l ++ sCells m from List.map_append]
      exact h1
    · exact (keeps_grown h2).mono (fun q _ e => own_block hown' q e)
  cases hao : ao with
  | some ad => exact key ad hao
  | none =>
    subst hao
    have hcap := hnil _ _ rfl
    subst hcap
    have hm0 : m = [] := List.eq_nil_of_length_eq_zero (by omega)
    subst hm0
    refine wpList_append_own_none hgd s x 47 ho base 9 i0 1 Tryz.underlying47 hi0 v l.length (sCells l) hs hown' hx ?_
    refine h v w ?_ (Keeps.refl _ _)
    rw [List.append_nil]
    exact hown
set_option maxRecDepth 100000
set_option maxHeartbeats 3200000
/-- The text of a place; none: the empty one. -/
def getL (L : List Str) (i : Int) : Str := if 0 ≤ i then L.getD i.toNat [] else []
/-- At most 40 texts, of at most 40 bytes each. -/
def lightB (l : List Str) : Bool := decide (l.length ≤ 40) && l.all fun s => decide (s.length ≤ 40)
end Go.Proofs.YtcdfpnlaklaafaaGreat
