/-
  The document's Add.
-/
import Derived.Test.YtmljmpjpdgijlaaDoorSetRef
set_option linter.unusedVariables false
set_option linter.unusedSimpArgs false
set_option linter.unnecessarySimpa false
namespace Go.Proofs.YtmljmpjpdgijlaaDoor
open Go.ChangeShapes Go.WideShapes Go.ChangeAt Go.RowKit Go.Deep SetPlain

theorem prInfo : (Tryd.prog.info? 27).map (fun i => (i.zero, i.size, i.bytes)) = some (some (.agg #[.int .i64 0, .int .i64 0]), 2, 16) := by kernel_rfl
def rfAddB (R C : Nat) (L : Nat → Int × Int) (n : Nat) (i c : Int) : Bool := decide (0 ≤ i ∧ i < R ∧ 0 ≤ c ∧ c < C) && !pB L (i, c) n
def RfAddPost (r : Nat) (vn : Value) (R C : Nat) (L : Nat → Int × Int) (n : Nat) (i c : Int) (b : Bool) (w : World) (e : Ending) (w' : World) : Prop :=
  e = .returned (.bool b) ∧ ∃ vn', RfMem w' r vn' R C (if b then addP L n (i, c) else L) (if b then n + 1 else n) ∧ Keeps (rfFp r vn) w w' ∧ (∀ k, rfFp r vn' k → rfFp r vn k ∨ w.heap.size ≤ k)

section
variable {w : World} {r : Nat} {R C : Nat} {L : Nat → Int × Int} {n : Nat}
theorem rfMid_of {wq W w2 : World} {cap : Nat} {ao : Option Addr} {v' : Value} {x : Int × Int} (kW : Keeps (fun _ => False) wq W) (t : RfMem wq r (.slice ao n cap) R C L n)
    (hown : w2.ownsRow 0 27 2 v' (n + 1) (prRow L n ++ prCells x)) (hgr : W.grownBy w2 (Value.slice ao n cap).ownBlock) (hfp : ∀ k, v'.ownBlock = some k → (Value.slice ao n cap).ownBlock = some k ∨ W.heap.size ≤ k) :
    RfMem (w2.setCell ⟨r, 2, none⟩ v') r v' R C (addP L n x) (n + 1) ∧ Keeps (rfFp r (.slice ao n cap)) wq (w2.setCell ⟨r, 2, none⟩ v') ∧ (∀ k, rfFp r v' k → rfFp r (.slice ao n cap) k ∨ wq.heap.size ≤ k) := by
  have tW := t.keeps kW (fun _ _ h => h)
  have hne := tW.ne
  have kg := keeps_grown hgr
  have ob := (kg.block r (lt_of_heap tW.obj) hne).trans tW.obj
  have kk := Keeps.setCell (S := fun k => k = r) (Keeps.refl _ w2) (p := ⟨r, 2, none⟩) (fun _ => rfl) v'
  refine ⟨⟨heap_set ob 2 _, ?_⟩, ?_, fun k hk => ?_⟩
  · rw [prRow_add]
    refine ownsRow_keeps' hown kk (fun k hk e => ?_)
    subst e
    rcases hfp _ hk with h | h
    · exact hne h
    · have := lt_of_heap tW.obj; omega
  · refine Keeps.setCell (S := rfFp r (.slice ao n cap)) ?_ (p := ⟨r, 2, none⟩) (fun _ => .inl rfl) _
    exact (kW.mono (fun _ _ h => h.elim)).trans (kg.mono (fun k _ h => .inr h))
  · rcases hk with h | hk
    · exact .inl (.inl h)
    rcases hfp k hk with h | h
    · exact .inl (.inr h)
    · exact .inr (Nat.le_trans kW.size h)

set_option maxRecDepth 100000 in
set_option maxHeartbeats 1600000 in
theorem rfadd_spec {vn : Value} (h : RfMem w r vn R C L n) (hn : n ≤ 1000000000) (i c : Int) : Calls Tryd.prog 10 #[.pointer (some ⟨r, 0, none⟩), .int .i64 i, .int .i64 c] w (RfAddPost r vn R C L n i c (rfAddB R C L n i c) w) := by
  obtain ⟨ao, cap, rfl, hle, hmx, _⟩ := h.row
  unfold maxLen at hmx
  have HH := Lib.hid (rfhas_spec h hn i c)
  have c0 : w.cell? ⟨r, 0, none⟩ = some (.int .i64 R) := by rw [cell_of_heap h.obj]; rfl
  have c1 : w.cell? ⟨r, 1, none⟩ = some (.int .i64 C) := by rw [cell_of_heap h.obj]; rfl
  have Hno : Hid (rfAddB R C L n i c = false → ∀ W, Keeps (fun _ => False) w W → RfAddPost r (.slice ao n cap) R C L n i c (rfAddB R C L n i c) w (.returned (.bool false)) W) := fun hb W hk => by
    rw [hb]
    exact ⟨rfl, .slice ao n cap, h.keeps hk (fun _ _ x => x), hk.mono (fun _ _ x => x.elim), fun k hk => .inl hk⟩
  have H := Lib.hid h
  by_cases h1 : i < 0
  · have Hn := Lib.hid (Hno.out (by unfold rfAddB; rw [Bool.and_eq_false_imp]; intro h; simp at h; omega) w (Keeps.refl _ _))
    clear Hno h
    go_enter Tryd.func10, Tryd.ntmps10
    go_wp2
    go_ret
    exact Hn.out
  by_cases h2 : (R : Int) ≤ i
  · have Hn := Lib.hid (Hno.out (by unfold rfAddB; rw [Bool.and_eq_false_imp]; intro h; simp at h; omega) w (Keeps.refl _ _))
    clear Hno h
    go_enter Tryd.func10, Tryd.ntmps10
    go_wp2
    go_ret
    exact Hn.out
  by_cases h3 : c < 0
  · have Hn := Lib.hid (Hno.out (by unfold rfAddB; rw [Bool.and_eq_false_imp]; intro h; simp at h; omega) w (Keeps.refl _ _))
    clear Hno h
    go_enter Tryd.func10, Tryd.ntmps10
    go_wp2
    go_ret
    exact Hn.out
  by_cases h4 : (C : Int) ≤ c
  · have Hn := Lib.hid (Hno.out (by unfold rfAddB; rw [Bool.and_eq_false_imp]; intro h; simp at h; omega) w (Keeps.refl _ _))
    clear Hno h
    go_enter Tryd.func10, Tryd.ntmps10
    go_wp2
    go_ret
    exact Hn.out
  cases hp : pB L (i, c) n with
  | true =>
    rw [hp] at HH
    have Hn := Lib.hid (Hno.out (by unfold rfAddB; rw [hp]; simp))
    clear Hno h hp
    go_enter Tryd.func10, Tryd.ntmps10
    go_wp2_with fail
    refine HH.out.mono ?_
    rintro e w1 ⟨rfl, hb⟩
    go_wp2
    go_ret
    exact Hn.out _ (Keeps.of_below hb (Nat.le_refl _))
  | false =>
    rw [hp] at HH
    have hadd : rfAddB R C L n i c = true := by unfold rfAddB; rw [hp]; simp; omega
    rw [hadd]
    clear Hno h hp hadd
    obtain ⟨i0, hi0, hz0, hz1', hz2⟩ := info_parts prInfo
    go_enter Tryd.func10, Tryd.ntmps10
    go_wp2_with fail
    refine HH.out.mono ?_
    rintro e w1 ⟨rfl, hb⟩
    have k1 : Keeps (fun _ => False) w w1 := Keeps.of_below hb (Nat.le_refl _)
    have t1 := H.out.keeps k1 (fun _ _ x => x)
    have d2 : w1.cell? ⟨r, 2, none⟩ = some (.slice ao n cap) := by rw [cell_of_heap t1.obj]; rfl
    have lb : r < w1.heap.size := lt_of_heap t1.obj
    have HB2 : Hid (∀ o W', (w1.alloc o).grownBy W' (Value.slice ao n cap).ownBlock → W'.cell? ⟨r, 2, none⟩ = some (.slice ao n cap) ∧ W'.frozen? ⟨r, 2, none⟩ = false) := fun o W' hg => by
      have t := t1.keeps ((Keeps.refl (fun _ => False) _).alloc o) (fun _ _ x => x)
      have ob := ((keeps_grown hg).block r (lt_of_heap t.obj) t.ne).trans t.obj
      exact ⟨by rw [cell_of_heap ob]; rfl, free_of_heap ob 2⟩
    have K1 := Lib.hid k1; have T1 := Lib.hid t1
    have Hown : Hid (∀ o, (w1.alloc o).ownsRow 0 27 2 (.slice ao n cap) n (prRow L n)) := fun o => (t1.keeps ((Keeps.refl (fun _ => False) _).alloc o) (fun _ _ x => x)).pairs
    clear k1 t1 hb HH c0 c1
    go_wp2_with (at_builtin; refine wpList_append_fp _ rfl _ _ 22 rfl 27 i0 _ 2 16 Tryd.underlying22 hi0 hz0 hz1' hz2 rfl (by decide) _ n (prRow L n) rfl (Hown.out _) ⟨w1.heap.size, 0, none⟩ 1 1 [.int .i64 i, .int .i64 c] rfl rfl (cells_new w1 _ _) (by intro u hu; simp only [List.mem_cons, List.not_mem_nil, or_false] at hu; rcases hu with rfl | rfl <;> rfl) (by omega) (by unfold maxLen; omega) (by omega) ?_)
    intro v' w2 hown hgrow hfp
    obtain ⟨e2, f2⟩ := HB2.out _ _ hgrow
    have hv' : ∃ ao2 cap2, v' = .slice ao2 (n + 1) cap2 := by obtain ⟨a, b, h, _⟩ := own_form hown; exact ⟨a, b, h⟩
    obtain ⟨ao2, cap2, rfl⟩ := hv'
    have HM := Lib.hid (rfMid_of (x := (i, c)) ((Keeps.refl _ _).alloc _) T1.out hown hgrow (fun k hk => by have := hfp k hk; simpa using this))
    clear hown hgrow hfp HB2 Hown d2
    go_wp2
    go_ret
    obtain ⟨m1, m2, m3⟩ := HM.out
    exact ⟨rfl, _, m1, (K1.out.mono (fun _ _ x => x.elim)).trans m2, fun k hk => (m3 k hk).imp id (fun h => Nat.le_trans K1.out.size h)⟩
end
end Go.Proofs.YtmljmpjpdgijlaaDoor
