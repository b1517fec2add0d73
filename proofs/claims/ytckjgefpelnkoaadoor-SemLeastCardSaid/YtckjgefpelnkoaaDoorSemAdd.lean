/-
  The maker's add.
-/
import Derived.Test.YtckjgefpelnkoaaDoorSemRun
import Derived.Deep.RegionWith
import Derived.Deep.RegionHeld3
set_option linter.unusedVariables false
set_option linter.unusedSimpArgs false
set_option linter.unnecessarySimpa false
namespace Go.Proofs.YtckjgefpelnkoaaDoor
open Go.ChangeShapes Go.WideShapes Go.ChangeAt Go.RowKit Go.Deep SetPlain

theorem fcInfo : (Tryd.prog.info? 57).map (fun i => (i.zero, i.size, i.bytes)) = some (some (.agg #[.int .i64 0, .int .i64 0]), 2, 16) := by kernel_rfl
/-- A maker in memory, by its state. -/
def SemAt (W : World) (M : Mk) (vr : Nat → Value) (L : Nat → List Rl) (s : St) (vq : Value) : Prop := SemMem W M vr L s.In s.tot s.steps vq s.q
/-- What a call may have done to memory. -/
structure SemStep (M : Mk) (vr vr' : Nat → Value) (vq vq' : Value) (W W' : World) : Prop where
  keeps : Keeps (semFp M vr vq) W W'
  fp : ∀ k, semFp M vr' vq' k → semFp M vr vq k ∨ W.heap.size ≤ k
theorem SemStep.refl (M : Mk) (vr : Nat → Value) (vq : Value) (W : World) : SemStep M vr vr vq vq W W := ⟨Keeps.refl _ _, fun k h => .inl h⟩
theorem SemStep.trans {M : Mk} {vr vr' vr2 : Nat → Value} {vq vq' vq2 : Value} {W W' W2 : World} (h : SemStep M vr vr' vq vq' W W') (k : SemStep M vr' vr2 vq' vq2 W' W2) : SemStep M vr vr2 vq vq2 W W2 :=
  ⟨h.keeps.trans_new k.keeps (fun i hi x => (h.fp i x).elim id (fun y => by omega)), fun i x => (k.fp i x).elim (h.fp i) (fun y => .inr (Nat.le_trans h.keeps.size y))⟩
theorem SemStep.quiet {M : Mk} {vr : Nat → Value} {vq : Value} {W W' : World} (h : Keeps (fun _ => False) W W') : SemStep M vr vr vq vq W W' := ⟨h.mono (fun _ _ x => x.elim), fun k x => .inl x⟩
section
variable {W : World} {M : Mk} {vr : Nat → Value} {L : Nat → List Rl} {s : St} {vq : Value}
theorem SemAt.tick (h : SemAt W M vr L s vq) : SemAt (W.setCell ⟨M.mo, 3, none⟩ (.int .i64 (s.steps + 1 : Nat))) M vr L s.tick vq ∧ SemStep M vr vr vq vq W (W.setCell ⟨M.mo, 3, none⟩ (.int .i64 (s.steps + 1 : Nat))) :=
  ⟨SemMem.setSteps h _, ⟨Keeps.setCell (Keeps.refl _ _) (p := ⟨M.mo, 3, none⟩) (fun _ => .inr (.inl rfl)) _, fun k x => .inl x⟩⟩
theorem SemAt.mcells (h : SemAt W M vr L s vq) : W.cell? ⟨M.mb, 0, none⟩ = some (.pointer (some ⟨M.mo, 0, none⟩)) ∧ W.cell? ⟨M.mb, 1, none⟩ = some (.slice (some ⟨M.bb, 0, none⟩) M.N M.N) ∧ W.cell? ⟨M.mb, 2, none⟩ = some (.slice (some ⟨M.vb, 0, none⟩) M.K M.K) ∧ W.cell? ⟨M.mb, 3, none⟩ = some vq := by
  have := h.mko
  unfold mkObj at this
  exact ⟨by rw [cell_of_heap this]; rfl, by rw [cell_of_heap this]; rfl, by rw [cell_of_heap this]; rfl, by rw [cell_of_heap this]; rfl⟩
theorem SemAt.ocells (h : SemAt W M vr L s vq) : W.cell? ⟨M.mo, 0, none⟩ = some (.pointer (some ⟨M.fb, 0, none⟩)) ∧ W.cell? ⟨M.mo, 1, none⟩ = some (.int .i64 M.P) ∧ W.cell? ⟨M.mo, 2, none⟩ = some (.int .i64 M.K) ∧ W.cell? ⟨M.mo, 3, none⟩ = some (.int .i64 s.steps) := by
  have := h.moo
  unfold moObj at this
  exact ⟨by rw [cell_of_heap this]; rfl, by rw [cell_of_heap this]; rfl, by rw [cell_of_heap this]; rfl, by rw [cell_of_heap this]; rfl⟩
theorem SemAt.free (h : SemAt W M vr L s vq) : (∀ i, W.frozen? ⟨M.mb, i, none⟩ = false) ∧ (∀ i, W.frozen? ⟨M.mo, i, none⟩ = false) := by
  have h1 := h.mko
  have h2 := h.moo
  unfold mkObj at h1
  unfold moObj at h2
  exact ⟨fun i => free_of_heap h1 i, fun i => free_of_heap h2 i⟩
theorem SemAt.keeps (h : SemAt W M vr L s vq) {W' : World} (hk : Keeps (fun _ => False) W W') : SemAt W' M vr L s vq := SemMem.keeps h hk (fun _ _ x => x)
def AddPostS (M : Mk) (vr : Nat → Value) (L : Nat → List Rl) (vq : Value) (t : St) (W : World) (e : Ending) (W' : World) : Prop :=
  e = .returned (.tuple #[]) ∧ ∃ vq', SemAt W' M vr L t vq' ∧ SemStep M vr vr vq vq' W W'
set_option maxRecDepth 100000 in
set_option maxHeartbeats 1600000 in
theorem sadd_spec (h : SemAt W M vr L s vq) (role who : Nat) (hr : role ≤ 1000000000) (hw : who ≤ 1000000000) (hf : Few (s.add M.N M.P role who)) :
    Calls Tryd.prog 30 #[.pointer (some ⟨M.mb, 0, none⟩), .int .i64 role, .int .i64 who] W (AddPostS M vr L vq (s.add M.N M.P role who) W) := by
  obtain ⟨i0, hi0, hz0, hz1', hz2⟩ := info_parts fcInfo
  have hsteps : s.steps + 1 ≤ 10000000000000000 := by
    have := hf.steps
    unfold St.add at this
    split at this <;> exact this
  have htot : s.tot ≤ 1000000 := by
    have := hf.tot
    unfold St.add addTot at this
    split at this
    · rename_i hb
      have h2 : s.tot + 1 ≤ 1000000 := this
      omega
    · exact this
  have hlen : s.q.length ≤ 1000000 := by
    have := hf.len
    unfold St.add at this
    split at this
    · simp at this; omega
    · exact this
  obtain ⟨m0, m1, m2, m3⟩ := h.mcells
  obtain ⟨o0, o1, o2, o3⟩ := h.ocells
  have fo := h.free.2 3
  obtain ⟨t1, st1⟩ := h.tick
  have hwt : IntKind.i64.wrap ((s.steps : Int) + 1) = (s.steps : Int) + 1 := IntWalk.i64_in _ (by omega)
  rw [show ((s.steps + 1 : Nat) : Int) = (s.steps : Int) + 1 from by omega] at t1 st1
  obtain ⟨a0, a1, a2, a3⟩ := t1.mcells
  obtain ⟨b0, b1, b2, b3⟩ := t1.ocells
  have HA := Lib.hid (fadd_spec t1.fam (show s.tot ≤ 1000000000 by omega) role who (by omega) (by omega))
  have T1 := Lib.hid t1
  have ST1 := Lib.hid st1
  have Hp : Hid (∀ vq' W', SemAt W' M vr L (s.add M.N M.P role who) vq' → SemStep M vr vr vq vq' W W' → AddPostS M vr L vq (s.add M.N M.P role who) W (.returned (.tuple #[])) W') := fun vq' W' x y => ⟨rfl, vq', x, y⟩
  have hadd : s.tick.In = s.In := rfl
  clear t1 st1 hf htot
  go_enter Tryd.func30, Tryd.ntmps30
  go_wp2_with fail
  refine HA.out.mono ?_
  rintro e W2 ⟨rfl, fm, kf⟩
  have t2 : SemMem W2 M vr L (addIn M.N M.P s.In role who) (addTot M.N M.P s.In role who s.tot) (s.steps + 1) vq s.q := SemMem.setFam T1.out fm kf
  have st2 : SemStep M vr vr vq vq (W.setCell ⟨M.mo, 3, none⟩ (.int .i64 ((s.steps : Int) + 1))) W2 := ⟨kf.mono (fun k _ x => .inr (.inr (.inl x))), fun k x => .inl x⟩
  have st3 := ST1.out.trans st2
  have hab : addB M.N M.P s.tick.In role who = addB M.N M.P s.In role who := rfl
  rw [hab]
  cases hb : addB M.N M.P s.In role who with
  | false =>
    have hn : s.add M.N M.P role who = s.tick := by unfold St.add; rw [if_neg (by rw [hb]; simp)]
    have t3 : SemAt W2 M vr L s.tick vq := by
      unfold addIn addTot at t2
      rw [hb] at t2
      exact t2
    have HP := Lib.hid (Hp.out vq W2 (by rw [hn]; exact t3) st3)
    clear t2 t3 fm kf st2 st3 Hp HA T1 ST1
    go_wp2
    go_end0
    exact HP.out
  | true =>
    have hn : s.add M.N M.P role who = ⟨addIn M.N M.P s.In role who, addTot M.N M.P s.In role who s.tot, s.steps + 1, s.q ++ [(role, who)]⟩ := by unfold St.add; rw [if_pos hb]
    have T2 := Lib.hid t2
    have ST3 := Lib.hid st3
    obtain ⟨c0, c1, c2, c3⟩ := SemAt.mcells (s := ⟨_, _, _, _⟩) t2
    have lm : M.mb < W2.heap.size := lt_of_heap t2.mko
    have hq0 := t2.que
    have Hown : Hid (∀ o, TailRow (W2.alloc o) 57 2 vq s.q.length (fcCells s.q)) := fun o => hq0.keeps ((Keeps.refl (fun _ => False) W2).alloc o) (fun _ _ x => x)
    have Hfin : Hid (∀ o ao cap W3, TailRow W3 57 2 (.slice ao (s.q.length + 1) cap) (s.q.length + 1) (fcCells s.q ++ [.int .i64 role, .int .i64 who]) → (W2.alloc o).grownBy W3 vq.ownBlock → (∀ k, (Value.slice ao (s.q.length + 1) cap).ownBlock = some k → vq.ownBlock = some k ∨ W2.heap.size + 1 ≤ k) →
        W3.cell? ⟨M.mb, 3, none⟩ = some vq ∧ W3.frozen? ⟨M.mb, 3, none⟩ = false ∧ Hid (AddPostS M vr L vq (s.add M.N M.P role who) W (.returned (.tuple #[])) (W3.setCell ⟨M.mb, 3, none⟩ (.slice ao (s.q.length + 1) cap)))) := fun o ao cap W3 hq hg hfp => by
      have ka : Keeps (fun _ => False) W2 (W2.alloc o) := (Keeps.refl _ _).alloc o
      have kg := keeps_grown hg
      have t3 := SemMem.keeps t2 ka (fun _ _ x => x)
      have k3 : Keeps (fun k => vq.ownBlock = some k) W2 W3 := (ka.mono (fun _ _ x => x.elim)).trans kg
      have hm : W3.heap[M.mb]? = some (mkObj M vq) := (k3.block _ lm (t2.que.type t2.mko (by decide))).trans t2.mko
      unfold mkObj at hm
      have hq' : TailRow W3 57 2 (.slice ao (s.q.length + 1) cap) (s.q ++ [(role, who)]).length (fcCells (s.q ++ [(role, who)])) := by
        rw [fcCells_append, List.length_append]; exact hq
      have t4 := SemMem.setQueue t2 hq' k3
      refine ⟨by rw [cell_of_heap hm]; rfl, free_of_heap hm 3, Hp.out _ _ (by rw [hn]; exact t4) (st3.trans ⟨?_, fun k x => ?_⟩)⟩
      · exact Keeps.setCell (k3.mono (fun k _ x => .inr (.inr (.inr (.inr (.inr (.inr x))))))) (p := ⟨M.mb, 3, none⟩) (fun _ => .inl rfl) _
      · rcases x with x | x | x | x | x | x | x
        · exact .inl (.inl x)
        · exact .inl (.inr (.inl x))
        · exact .inl (.inr (.inr (.inl x)))
        · exact .inl (.inr (.inr (.inr (.inl x))))
        · exact .inl (.inr (.inr (.inr (.inr (.inl x)))))
        · exact .inl (.inr (.inr (.inr (.inr (.inr (.inl x))))))
        · rcases hfp k x with y | y
          · exact .inl (.inr (.inr (.inr (.inr (.inr (.inr y))))))
          · exact .inr (by omega)
    clear t2 fm kf st2 st3 Hp HA T1 ST1 hq0
    go_wp2_with (at_builtin; refine wpList_append_tail _ rfl _ _ 52 rfl 57 i0 _ 2 16 Tryd.underlying52 hi0 hz0 hz1' hz2 rfl (by decide) _ s.q.length (fcCells s.q) rfl (Hown.out _) ⟨W2.heap.size, 0, none⟩ 1 1 [.int .i64 role, .int .i64 who] rfl rfl (cells_new W2 _ _) (by intro u hu; simp only [List.mem_cons, List.not_mem_nil, or_false] at hu; rcases hu with rfl | rfl <;> rfl) (by omega) (by unfold maxLen; omega) (by omega) ?_)
    intro ao cap W3 hown hgrow hfp
    obtain ⟨e3, f3, hpost⟩ := Hfin.out _ _ _ _ hown hgrow hfp
    clear hown hgrow hfp Hown Hfin T2 ST3 c0 c1 c2 c3
    go_wp2
    go_end0
    have hpo := hpost.out
    rw [hn] at hpo
    exact hpo
end
end Go.Proofs.YtckjgefpelnkoaaDoor
