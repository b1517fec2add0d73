/-
  The node behind a diagram's number.
-/
import Derived.Test.YtloidoekmicloaaMD
set_option linter.unusedVariables false
set_option linter.unusedSimpArgs false
set_option linter.unnecessarySimpa false
namespace Go.Proofs.Ytloidoekmicloaa
open Go.ChangeShapes Go.WideShapes Go.ChangeAt Go.RowKit Go.Deep NodePlain
section
variable {W : World} {db : Nat} {V B : Int} {st : St} {calls : Int} {Fp : Nat → Prop}
set_option maxRecDepth 100000
set_option maxHeartbeats 1600000
theorem bmade_spec (h : Bd W db V B st calls Fp) (hn : st.n ≤ 1000000000) (k : Int) (hk0 : -9223372036854775808 ≤ k) (hk : k ≤ 9223372036854775807) :
    Calls Try.prog 73 #[.pointer (some ⟨db, 0, none⟩), .int .i64 k] W fun e W' => e = .returned (.tuple #[.agg #[.int .i64 ((getN st.L st.n k).getD (0, 0, 0)).1, .int .i64 ((getN st.L st.n k).getD (0, 0, 0)).2.1, .int .i64 ((getN st.L st.n k).getD (0, 0, 0)).2.2], .bool (getN st.L st.n k).isSome]) ∧ Below W.heap.size W W' := by
  obtain ⟨tb, tp, M, vn, cb, cp, P, h, rfl⟩ := h
  have HC : Hid (∀ W', Keeps (fun _ => False) W W' → W'.cell? ⟨db, 0, none⟩ = some (.pointer (some ⟨tb, 0, none⟩)) ∧ Calls Try.prog 83 #[.pointer (some ⟨tb, 0, none⟩), .int .i64 k] W' (GetNPost (getN st.L st.n k) W')) := fun W' hW => by
    obtain ⟨c0, _, _⟩ := h.cells
    exact ⟨(hW.cell (p := ⟨db, 0, none⟩) (lt_of_cell c0) (fun x => x)).trans c0, tget_spec (h.tab.mem.keeps hW (fun _ _ x => x)) (by omega) k hk0 hk⟩
  clear h
  obtain ⟨r, hr⟩ : ∃ r, getN st.L st.n k = r := ⟨_, rfl⟩
  rw [hr] at HC ⊢
  obtain ⟨⟨a0, a1, a2⟩, hx⟩ : ∃ p, r.getD (0, 0, 0) = p := ⟨_, rfl⟩
  have HX := Lib.hid hx
  rw [hx]
  obtain ⟨bo, hbo⟩ : ∃ b, r.isSome = b := ⟨_, rfl⟩
  have HO := Lib.hid hbo
  rw [hbo]
  clear hr hx hbo
  have hk1 : Keeps (fun _ => False) W (W.alloc (.cells #[.int .i64 0, .int .i64 0, .int .i64 0] 103)) := (Keeps.refl _ _).alloc _
  have ha := (MapKept.heap_alloc W (.cells #[.int .i64 0, .int .i64 0, .int .i64 0] 103)).1
  obtain ⟨c0, hget⟩ := HC.out _ hk1
  have HG := Lib.hid hget
  have HA := Lib.hid ha
  have HK := Lib.hid hk1
  clear hget ha hk1 HC
  go_enter Try.func73, Try.ntmps73
  go_upto_region 3 with go_in
  generalize W.alloc (.cells #[.int .i64 0, .int .i64 0, .int .i64 0] 103) = W1 at *
  go_wp2_with (go_at_call 83; refine HG.out.mono ?_; rintro e w2 ⟨rfl, hb⟩; rw [HX.out, HO.out]; simp only [ndCells]; have hk2 := Keeps.of_below (S := fun _ => False) hb (Nat.le_refl _); have ha2 := (hk2.block _ (lt_of_heap HA.out) (fun x => x)).trans HA.out; have hf0 := free_of_heap ha2 0; have hf1 := free_of_heap ha2 1; have hf2 := free_of_heap ha2 2; have hl2 := lt_of_heap ha2; have hg0 := cell_of_heap ha2 0; have hg1 := cell_of_heap ha2 1; have hg2 := cell_of_heap ha2 2; simp only [List.getElem?_toArray, List.getElem?_cons_zero, List.getElem?_cons_succ] at hg0 hg1 hg2; have HK2 := Lib.hid (HK.out.trans hk2); have HA2 := Lib.hid ha2; clear hb hk2 ha2)
  have hb3 : Below W.heap.size W (((w2.setCell ⟨W.heap.size, 0, none⟩ (.int .i64 a0)).setCell ⟨W.heap.size, 1, none⟩ (.int .i64 a1)).setCell ⟨W.heap.size, 2, none⟩ (.int .i64 a2)) :=
    (((HK2.out.setCell (fun h => absurd h (Nat.lt_irrefl _)) _).setCell (fun h => absurd h (Nat.lt_irrefl _)) _).setCell (fun h => absurd h (Nat.lt_irrefl _)) _).below (Nat.le_refl _) (fun _ _ x => x)
  have hz : (((w2.setCell ⟨W.heap.size, 0, none⟩ (.int .i64 a0)).setCell ⟨W.heap.size, 1, none⟩ (.int .i64 a1)).setCell ⟨W.heap.size, 2, none⟩ (.int .i64 a2)).heap[W.heap.size]? = some (.cells #[.int .i64 a0, .int .i64 a1, .int .i64 a2] 103 (0, 0)) := by
    rw [heap_set (heap_set (heap_set HA2.out 0 _) 1 _) 2 _]; rfl
  generalize (((w2.setCell ⟨W.heap.size, 0, none⟩ (.int .i64 a0)).setCell ⟨W.heap.size, 1, none⟩ (.int .i64 a1)).setCell ⟨W.heap.size, 2, none⟩ (.int .i64 a2)) = w3 at hb3 hz ⊢
  have z0 := cell_of_heap hz 0
  have z1 := cell_of_heap hz 1
  have z2 := cell_of_heap hz 2
  simp only [List.getElem?_toArray, List.getElem?_cons_zero, List.getElem?_cons_succ] at z0 z1 z2
  refine bodyPost_ret (v := .tuple #[.agg #[.int .i64 a0, .int .i64 a1, .int .i64 a2], .bool bo]) (by simp [results, Try.results73, go_sem, *]) rfl ⟨rfl, hb3⟩
end
end Go.Proofs.Ytloidoekmicloaa
