/-
  The document's List, Inside, Meets; whether two lists are the same.
-/
import Derived.Test.YtmljmpjpdgijlaaDoorSetRef
set_option linter.unusedVariables false
set_option linter.unusedSimpArgs false
set_option linter.unnecessarySimpa false
namespace Go.Proofs.YtmljmpjpdgijlaaDoor
open Go.ChangeShapes Go.WideShapes Go.ChangeAt Go.RowKit Go.Deep SetPlain

/-- A row of pairs, as a set. -/
def rowL (L : Nat → Int × Int) (n : Nat) (i : Int) : Nat → Bool := fun c => pB L (i, (c : Int)) n
section
variable {w : World} {r : Nat} {R C : Nat} {L : Nat → Int × Int} {n : Nat} {vn : Value}
set_option maxRecDepth 100000 in
set_option maxHeartbeats 1600000 in
theorem rflist_spec (h : RfMem w r vn R C L n) (hn : n ≤ 1000000000) (hC : C ≤ 1000) (i : Int) : Calls Tryd.prog 15 #[.pointer (some ⟨r, 0, none⟩), .int .i64 i] w (ListPost (listTo (rowL L n i) C) w) := by
  have HH : Hid (∀ W, Keeps (fun _ => False) w W → ∀ c : Nat, Calls Tryd.prog 12 #[.pointer (some ⟨r, 0, none⟩), .int .i64 i, .int .i64 c] W fun e w' => e = .returned (.bool (rowL L n i c)) ∧ Below W.heap.size W w') := fun W hW c => rfhas_spec (h.keeps hW (fun _ _ x => x)) hn i (c : Int)
  have c1 : w.cell? ⟨r, 1, none⟩ = some (.int .i64 C) := by rw [cell_of_heap h.obj]; rfl
  have lr : r < w.heap.size := lt_of_heap h.obj
  generalize rowL L n i = p at HH ⊢
  clear h
  obtain ⟨i0, hi, hz0, hz1, hz2⟩ := info_parts lIntInfo
  go_enter Tryd.func15, Tryd.ntmps15
  go_wp2_with fail
  go_loopg [5, 6] C (fun g s5 s6 wr => ∃ (c : Nat) (v : Value), c ≤ C ∧ g = C - c ∧ s6 = .int .i64 c ∧ s5 = v ∧ Hid (wr.ownsRow w.heap.size 3 1 v (listTo p c).length ((listTo p c).map intV)) ∧ Hid (Below w.heap.size w wr))
  case atStart => exact ⟨0, _, Nat.zero_le _, rfl, rfl, rfl, World.ownsRow_nil _ _ _ _, Below.refl _ _⟩
  case round =>
    obtain ⟨c, v, hc, rfl, rfl, rfl, hown, hb⟩ := hrel
    have d1 := (hb.out.cell (p := ⟨r, 1, none⟩) lr).trans c1
    have hCI : (C : Int) ≤ 1000 := by omega
    by_cases hlt : c < C
    · have hcI : (c : Int) < (C : Int) := by omega
      have HC := Lib.hid (HH.out wr (Keeps.of_below hb.out (Nat.le_refl _)) c)
      have hlen : (listTo p c).length ≤ c := by rw [listTo_len]; exact cnt_le _ _
      cases hp : p c with
      | true =>
        rw [hp] at HC
        have hl : Hid (listTo p (c + 1) = listTo p c ++ [c]) := by show (if p c = true then _ else _) = _; rw [if_pos hp]
        clear hp
        go_wp2_with fail
        refine HC.out.mono ?_
        rintro e w2 ⟨rfl, hb2⟩
        have hzs := hb.out.size
        have k2 : Keeps (fun _ => False) wr w2 := Keeps.of_below hb2 (Nat.le_refl _)
        have how := ownsRow_keeps' hown.out k2 (fun _ _ x => x)
        have hob := Lib.hid (own_block how)
        have hb3 : Below w.heap.size w w2 := hb.out.trans (k2.below hzs (fun _ _ x => x))
        have hzs2 := hb3.size
        have HB3 := Lib.hid hb3
        clear hb3 hb2 k2 HC hown hb d1
        go_wp2_with (at_builtin; refine wpList_append_own _ rfl _ _ 33 rfl w.heap.size 3 i0 _ 1 8 Tryd.underlying33 hi hz0 hz1 hz2 rfl (by decide) _ _ _ rfl (how.alloc _) ⟨w2.heap.size, 0, none⟩ 1 1 [.int .i64 (c : Int)] rfl rfl (cells_new w2 _ _) (by intro u hu; simp only [List.mem_cons, List.not_mem_nil, or_false] at hu; subst hu; rfl) (by unfold maxLen; omega) (by omega) (by simp; omega) ?_)
        intro v2 w3 hown2 hgrow _
        have hnew : Hid (w3.ownsRow w.heap.size 3 1 v2 (listTo p (c + 1)).length ((listTo p (c + 1)).map intV)) := by
          show w3.ownsRow _ _ _ _ _ _
          rw [hl.out, List.length_append, List.map_append]
          exact hown2
        have hbn : Hid (Below w.heap.size w w3) := (HB3.out.alloc hzs2 _).trans ((keeps_grown hgrow).below (by simp; omega) (fun k hk e => by have := hob.out k e; omega))
        clear hown2 hgrow how hzs hzs2 hob HB3
        go_wp2_with fail
        go_roundg (C - (c + 1))
        case measure => omega
        case rel => exact ⟨c + 1, _, by omega, rfl, by go_num, rfl, hnew.out, hbn.out⟩
      | false =>
        rw [hp] at HC
        have hl : Hid (listTo p (c + 1) = listTo p c) := by show (if p c = true then _ else _) = _; rw [if_neg (by rw [hp]; simp)]
        clear hp
        go_wp2_with fail
        refine HC.out.mono ?_
        rintro e w2 ⟨rfl, hb2⟩
        have k2 : Keeps (fun _ => False) wr w2 := Keeps.of_below hb2 (Nat.le_refl _)
        have how := Lib.hid (ownsRow_keeps' hown.out k2 (fun _ _ x => x))
        have hb3 : Hid (Below w.heap.size w w2) := hb.out.trans (k2.below hb.out.size (fun _ _ x => x))
        clear hb2 k2 HC hown hb d1
        go_wp2_with fail
        go_roundg (C - (c + 1))
        case measure => omega
        case rel => exact ⟨c + 1, _, by omega, rfl, by go_num, rfl, by rw [hl.out]; exact how.out, hb3.out⟩
    · obtain rfl : c = C := by omega
      go_wp2
      go_ret
      exact ⟨_, rfl, hown.out, hb.out⟩
end
end Go.Proofs.YtmljmpjpdgijlaaDoor
