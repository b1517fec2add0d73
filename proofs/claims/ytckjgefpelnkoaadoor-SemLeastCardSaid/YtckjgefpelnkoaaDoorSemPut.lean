/-
  The walk of the maker's put.
-/
import Derived.Test.YtckjgefpelnkoaaDoorSemPutMem
import Derived.Test.YtckjgefpelnkoaaDoorKit3
set_option linter.unusedVariables false
set_option linter.unusedSimpArgs false
set_option linter.unnecessarySimpa false
namespace Go.Proofs.YtckjgefpelnkoaaDoor
open Go.ChangeShapes Go.WideShapes Go.ChangeAt Go.RowKit Go.Deep SetPlain
def PutPost (M : Mk) (vr : Nat → Value) (L : Nat → List Rl) (vq : Value) (t : St) (W : World) (e : Ending) (W' : World) : Prop :=
  e = .returned (.tuple #[]) ∧ ∃ vr' vq', SemAt W' M vr' L t vq' ∧ SemStep M vr vr' vq vq' W W'
def PutC (M : Mk) (x : Nat) (r : Rl) (W : World) : Prop :=
  W.cell? ⟨M.mb, 1, none⟩ = some (.slice (some ⟨M.bb, 0, none⟩) M.N M.N) ∧ W.cell? ⟨M.mb, 2, none⟩ = some (.slice (some ⟨M.vb, 0, none⟩) M.K M.K) ∧ W.cell? ⟨x, 0, none⟩ = some (.int .i64 r.kind) ∧ W.cell? ⟨x, 1, none⟩ = some (.int .i64 r.head) ∧ W.cell? ⟨x, 2, none⟩ = some (.int .i64 r.who) ∧ W.cell? ⟨x, 3, none⟩ = some (.int .i64 r.a) ∧ W.cell? ⟨x, 4, none⟩ = some (.int .i64 r.b) ∧ W.cell? ⟨x, 5, none⟩ = some (.int .i64 r.via)
theorem PutS.cells {M : Mk} {vr : Nat → Value} {x : Nat} {r : Rl} {W : World} (h : PutS M vr x r W) : PutC M x r W := ⟨h.by_, h.via_, h.rule⟩
section
variable {W : World} {M : Mk} {vr : Nat → Value} {L : Nat → List Rl} {s : St} {vq : Value}
theorem PutAt.post {W0 : World} {vr0 : Nat → Value} {vq0 : Value} {x : Nat} {r : Rl} {L' : Nat → List Rl} (h : PutAt W0 M vr0 vr L vq0 x r s vq W) (e : L = L') : PutPost M vr0 L' vq0 s W0 (.returned (.tuple #[])) W := ⟨rfl, vr, vq, e ▸ h.at_, h.step⟩
theorem Keeps.two {W' : World} (o : Obj) : Keeps (fun _ => False) W (W.drew.alloc o) := ((Keeps.refl _ _).drew).alloc _
set_option maxRecDepth 100000 in
set_option maxHeartbeats 3200000 in
theorem sput_incl (h : SemAt W M vr L s vq) (hs : s.steps ≤ 10000000000000000) (hL : ∀ i, (L i).length ≤ 1000000) (head who b via : Int) (an : Nat) (ha : an < M.N) :
    Calls Tryd.prog 22 #[.pointer (some ⟨M.mb, 0, none⟩), .agg #[.int .i64 2, .int .i64 head, .int .i64 who, .int .i64 an, .int .i64 b, .int .i64 via]] W (PutPost M vr (addL L an ⟨2, head, who, an, b, via⟩) vq s.tick W) := by
  have hP64 := h.hP
  have hK64 := h.hK
  have hNle : M.N ≤ 64 * 64 := Nat.mul_le_mul hP64 hK64
  have hbx := PutAt.box h ⟨2, head, who, an, b, via⟩
  obtain ⟨n0, n1, n2, n3⟩ := hbx.at_.mcells
  obtain ⟨o0, o1, o2, o3⟩ := hbx.at_.ocells
  have fo := hbx.at_.free.2 3
  obtain ⟨r0, r1, r2, r3, r4, r5⟩ := hbx.rule
  have htk := hbx.tick
  rw [show ((s.steps + 1 : Nat) : Int) = (s.steps : Int) + 1 from by omega] at htk
  have hwt : IntKind.i64.wrap ((s.steps : Int) + 1) = (s.steps : Int) + 1 := IntWalk.i64_in _ (by omega)
  unfold ruleObj at *
  simp only [] at n0 n1 n2 n3 o0 o1 o2 o3 fo r0 r1 r2 r3 r4 r5 htk
  clear hbx
  obtain ⟨i0, hi0, hz0, hz1', hz2⟩ := info_parts rlInfo
  have haI : (an : Int) < (M.N : Int) := by omega
  go_enter Tryd.func22, Tryd.ntmps22
  go_upto_region 2 with fail
  generalize (W.alloc (.cells #[.int .i64 2, .int .i64 head, .int .i64 who, .int .i64 an, .int .i64 b, .int .i64 via] 25)).setCell ⟨M.mo, 3, none⟩ (.int .i64 ((s.steps : Int) + 1)) = wq at htk ⊢
  clear n0 n1 n2 n3 o0 o1 o2 o3 fo r0 r1 r2 r3 r4 r5 h
  have HQ := Lib.hid htk
  obtain ⟨ao, cap, hv, hle, hmx⟩ := htk.at_.rowV (i := an) (by omega)
  have hlen : (L an).length ≤ 1000001 := Nat.le_succ_of_le (hL _)
  have hS0 : (fun w' => w'.cell? ⟨M.mb, 1, none⟩ = some (.slice (some ⟨M.bb, 0, none⟩) M.N M.N) ∧ w'.cell? ⟨M.mb, 2, none⟩ = some (.slice (some ⟨M.vb, 0, none⟩) M.K M.K) ∧ w'.cell? ⟨W.heap.size, 0, none⟩ = some (.int .i64 2) ∧ w'.cell? ⟨W.heap.size, 1, none⟩ = some (.int .i64 head) ∧ w'.cell? ⟨W.heap.size, 2, none⟩ = some (.int .i64 who) ∧ w'.cell? ⟨W.heap.size, 3, none⟩ = some (.int .i64 an) ∧ w'.cell? ⟨W.heap.size, 4, none⟩ = some (.int .i64 b) ∧ w'.cell? ⟨W.heap.size, 5, none⟩ = some (.int .i64 via)) wq.drew := (htk.quiet ((Keeps.refl _ _).drew)).rd.cells
  have HK2 : Hid (∀ o, (fun w' => w'.cell? ⟨M.mb, 1, none⟩ = some (.slice (some ⟨M.bb, 0, none⟩) M.N M.N) ∧ w'.cell? ⟨M.mb, 2, none⟩ = some (.slice (some ⟨M.vb, 0, none⟩) M.K M.K) ∧ w'.cell? ⟨W.heap.size, 0, none⟩ = some (.int .i64 2) ∧ w'.cell? ⟨W.heap.size, 1, none⟩ = some (.int .i64 head) ∧ w'.cell? ⟨W.heap.size, 2, none⟩ = some (.int .i64 who) ∧ w'.cell? ⟨W.heap.size, 3, none⟩ = some (.int .i64 an) ∧ w'.cell? ⟨W.heap.size, 4, none⟩ = some (.int .i64 b) ∧ w'.cell? ⟨W.heap.size, 5, none⟩ = some (.int .i64 via)) (wq.drew.alloc o)) := fun o => (HQ.out.quiet (((Keeps.refl _ _).drew).alloc o)).rd.cells
  have pba : wq.cell? ⟨M.bb, an, none⟩ = some (.slice ao (L an).length cap) := by rw [← hv]; exact htk.rd.bc an ha
  have pfa : wq.frozen? ⟨M.bb, an, none⟩ = false := htk.rd.bf an
  have lb : M.bb < wq.heap.size := lt_of_cell pba
  have Hown : Hid (∀ W', Keeps (fun _ => False) wq W' → TailRow W' 25 6 (.slice ao (L an).length cap) (L an).length (rlCells (L an))) := fun W' hk => by
    have := (HQ.out.at_.keeps hk).rows (an) (by omega)
    rw [hv] at this
    exact this
  have HG : Hid (∀ W1 W2 ao' cap', Keeps (fun _ => False) wq W1 → TailRow W2 25 6 (.slice ao' ((L an).length + 1) cap') ((L an).length + 1) (rlCells (L an) ++ [.int .i64 2, .int .i64 head, .int .i64 who, .int .i64 an, .int .i64 b, .int .i64 via]) → W1.grownBy W2 (Value.slice ao (L an).length cap).ownBlock → (∀ k, (Value.slice ao' ((L an).length + 1) cap').ownBlock = some k → (Value.slice ao (L an).length cap).ownBlock = some k ∨ W1.heap.size ≤ k) →
      (fun w' => w'.cell? ⟨M.mb, 1, none⟩ = some (.slice (some ⟨M.bb, 0, none⟩) M.N M.N) ∧ w'.cell? ⟨M.mb, 2, none⟩ = some (.slice (some ⟨M.vb, 0, none⟩) M.K M.K) ∧ w'.cell? ⟨W.heap.size, 0, none⟩ = some (.int .i64 2) ∧ w'.cell? ⟨W.heap.size, 1, none⟩ = some (.int .i64 head) ∧ w'.cell? ⟨W.heap.size, 2, none⟩ = some (.int .i64 who) ∧ w'.cell? ⟨W.heap.size, 3, none⟩ = some (.int .i64 an) ∧ w'.cell? ⟨W.heap.size, 4, none⟩ = some (.int .i64 b) ∧ w'.cell? ⟨W.heap.size, 5, none⟩ = some (.int .i64 via)) W2 ∧ W2.cell? ⟨M.bb, an, none⟩ = some (.slice ao (L an).length cap) ∧ W2.frozen? ⟨M.bb, an, none⟩ = false ∧ (fun w' => w'.cell? ⟨M.mb, 1, none⟩ = some (.slice (some ⟨M.bb, 0, none⟩) M.N M.N) ∧ w'.cell? ⟨M.mb, 2, none⟩ = some (.slice (some ⟨M.vb, 0, none⟩) M.K M.K) ∧ w'.cell? ⟨W.heap.size, 0, none⟩ = some (.int .i64 2) ∧ w'.cell? ⟨W.heap.size, 1, none⟩ = some (.int .i64 head) ∧ w'.cell? ⟨W.heap.size, 2, none⟩ = some (.int .i64 who) ∧ w'.cell? ⟨W.heap.size, 3, none⟩ = some (.int .i64 an) ∧ w'.cell? ⟨W.heap.size, 4, none⟩ = some (.int .i64 b) ∧ w'.cell? ⟨W.heap.size, 5, none⟩ = some (.int .i64 via)) (W2.setCell ⟨M.bb, an, none⟩ (.slice ao' ((L an).length + 1) cap')) ∧ Hid (PutPost M vr (addL L an ⟨2, head, who, an, b, via⟩) vq s.tick W (.returned (.tuple #[])) (W2.setCell ⟨M.bb, an, none⟩ (.slice ao' ((L an).length + 1) cap')))) := fun W1 W2 ao' cap' k1 ho hgr hfp => by
    rw [← hv] at hgr hfp
    obtain ⟨a1, a2⟩ := HQ.out.grow (g := an) (by omega) k1 ho hgr hfp
    have a3 := a2 ⟨M.bb, an, none⟩ (.inl ⟨ha, rfl⟩)
    exact ⟨a1.cells, by rw [← hv]; exact a1.bc an ha, a1.bf an, a3.out.rd.cells, a3.out.post rfl⟩
  clear htk hv
  obtain ⟨p1, p2, p3, p4, p5, p6, p7, p8⟩ := HQ.out.rd.cells
  simp only [] at p3 p4 p5 p6 p7 p8
  go_upto_region 3 with fail
  clear p1 p2 p3 p4 p5 p6 p7 p8
  refine wp_region_noPanic ?_
  refine wp_region_held_drew (S := fun w' => w'.cell? ⟨M.mb, 1, none⟩ = some (.slice (some ⟨M.bb, 0, none⟩) M.N M.N) ∧ w'.cell? ⟨M.mb, 2, none⟩ = some (.slice (some ⟨M.vb, 0, none⟩) M.K M.K) ∧ w'.cell? ⟨W.heap.size, 0, none⟩ = some (.int .i64 2) ∧ w'.cell? ⟨W.heap.size, 1, none⟩ = some (.int .i64 head) ∧ w'.cell? ⟨W.heap.size, 2, none⟩ = some (.int .i64 who) ∧ w'.cell? ⟨W.heap.size, 3, none⟩ = some (.int .i64 an) ∧ w'.cell? ⟨W.heap.size, 4, none⟩ = some (.int .i64 b) ∧ w'.cell? ⟨W.heap.size, 5, none⟩ = some (.int .i64 via)) (by kernel_rfl) hS0 (fun hHeld => ?_)
  refine wpAnyH_take_at (i := 0) (v := ?v0) rfl (by kernel_rfl) (by kernel_rfl) (by kernel_rfl) (fun _ _ _ h => h) (Or.inl ⟨by rfl, ?y0⟩) hHeld ?r0
  case y0 => (intro w hSw; (try dsimp only at hSw); go_simp; first | done | with_reducible rfl)
  (try simp only [Act.put, List.setIfInBounds_toArray, List.set_cons_zero, List.set_cons_succ])
  refine wpAnyH_take_at (i := 1) (v := ?v1) rfl (by kernel_rfl) (by kernel_rfl) (by kernel_rfl) (fun _ _ _ h => h) (Or.inl ⟨by rfl, ?y1⟩) hHeld ?r1
  case y1 => (intro w hSw; (try dsimp only at hSw); go_simp; first | done | with_reducible rfl)
  (try simp only [Act.put, List.setIfInBounds_toArray, List.set_cons_zero, List.set_cons_succ])
  refine wpAnyH_take_at (i := 2) (v := ?v2) rfl (by kernel_rfl) (by kernel_rfl) (by kernel_rfl) (fun _ _ _ h => h) (Or.inl ⟨by rfl, ?y2⟩) hHeld ?r2
  case y2 => (intro w hSw; (try dsimp only at hSw); go_simp; first | done | with_reducible rfl)
  (try simp only [Act.put, List.setIfInBounds_toArray, List.set_cons_zero, List.set_cons_succ])
  refine wpAnyH_take_at (i := 3) (v := ?v3) rfl (by kernel_rfl) (by kernel_rfl) (by kernel_rfl) (fun _ _ _ h => h) (Or.inl ⟨by rfl, ?y3⟩) hHeld ?r3
  case y3 => (intro w hSw; (try dsimp only at hSw); go_simp; first | done | with_reducible rfl)
  (try simp only [Act.put, List.setIfInBounds_toArray, List.set_cons_zero, List.set_cons_succ])
  refine wpAnyH_take_at (i := 4) (v := ?v4) rfl (by kernel_rfl) (by kernel_rfl) (by kernel_rfl) (fun _ _ _ h => h) (Or.inl ⟨by rfl, ?y4⟩) hHeld ?r4
  case y4 => (intro w hSw; (try dsimp only at hSw); go_simp; first | done | with_reducible rfl)
  (try simp only [Act.put, List.setIfInBounds_toArray, List.set_cons_zero, List.set_cons_succ])
  refine wpAnyH_take_at (i := 5) (v := ?v5) rfl (by kernel_rfl) (by kernel_rfl) (by kernel_rfl) (fun _ _ _ h => h) (Or.inl ⟨by rfl, ?y5⟩) hHeld ?r5
  case y5 => (intro w hSw; (try dsimp only at hSw); go_simp; first | done | with_reducible rfl)
  (try simp only [Act.put, List.setIfInBounds_toArray, List.set_cons_zero, List.set_cons_succ])
  refine wpAnyH_take_at (i := 6) (v := ?v6) rfl (by kernel_rfl) (by kernel_rfl) (by kernel_rfl) (fun _ _ _ h => h) (Or.inl ⟨by rfl, ?y6⟩) hHeld ?r6
  case y6 => (intro w hSw; (try dsimp only at hSw); go_simp; first | done | with_reducible rfl)
  (try simp only [Act.put, List.setIfInBounds_toArray, List.set_cons_zero, List.set_cons_succ])
  refine wpAnyH_take_at (i := 7) (v := ?v7) rfl (by kernel_rfl) (by kernel_rfl) (by kernel_rfl) (fun _ _ _ h => h) (Or.inl ⟨by rfl, ?y7⟩) hHeld ?r7
  case y7 => (intro w hSw; (try dsimp only at hSw); go_simp; first | done | with_reducible rfl)
  (try simp only [Act.put, List.setIfInBounds_toArray, List.set_cons_zero, List.set_cons_succ])
  refine wpAnyH_take_at (i := 8) (v := ?v8) rfl (by kernel_rfl) (by kernel_rfl) (by kernel_rfl) (fun _ _ _ h => h) (Or.inl ⟨by rfl, ?y8⟩) hHeld ?r8
  case y8 => (intro w hSw; (try dsimp only at hSw); go_simp; first | done | with_reducible rfl)
  (try simp only [Act.put, List.setIfInBounds_toArray, List.set_cons_zero, List.set_cons_succ])
  refine wpAnyH_take_at (i := 9) (v := ?v9) rfl (by kernel_rfl) (by kernel_rfl) (by kernel_rfl) (fun _ _ _ h => h) (Or.inl ⟨by rfl, ?y9⟩) hHeld ?r9
  case y9 => (intro w hSw; (try dsimp only at hSw); go_simp; first | done | with_reducible rfl)
  (try simp only [Act.put, List.setIfInBounds_toArray, List.set_cons_zero, List.set_cons_succ])
  refine wpAnyH_take_at (i := 10) (v := ?v10) rfl (by kernel_rfl) (by kernel_rfl) (by kernel_rfl) (fun _ _ _ h => h) (Or.inl ⟨by rfl, ?y10⟩) hHeld ?r10
  case y10 => (intro w hSw; (try dsimp only at hSw); go_simp; first | done | with_reducible rfl)
  (try simp only [Act.put, List.setIfInBounds_toArray, List.set_cons_zero, List.set_cons_succ])
  refine wpAnyH_take_at (i := 11) (v := ?v11) rfl (by kernel_rfl) (by kernel_rfl) (by kernel_rfl) (fun _ _ _ h => h) (Or.inl ⟨by rfl, ?y11⟩) hHeld ?r11
  case y11 => (intro w hSw; (try dsimp only at hSw); go_simp; first | done | with_reducible rfl)
  (try simp only [Act.put, List.setIfInBounds_toArray, List.set_cons_zero, List.set_cons_succ])
  refine wpAnyH_take_at (i := 12) (v := ?v12) rfl (by kernel_rfl) (by kernel_rfl) (by kernel_rfl) (fun _ _ _ h => h) (Or.inl ⟨by rfl, ?y12⟩) hHeld ?r12
  case y12 => (intro w hSw; (try dsimp only at hSw); go_simp; first | done | with_reducible rfl)
  (try simp only [Act.put, List.setIfInBounds_toArray, List.set_cons_zero, List.set_cons_succ])
  refine wpAnyH_take_at (i := 14) (v := ?v14) rfl (by kernel_rfl) (by kernel_rfl) (by kernel_rfl) (fun _ _ _ h => h) (Or.inl ⟨by rfl, ?y14⟩) hHeld ?r14
  case y14 => (intro w hSw; (try dsimp only at hSw); go_simp; first | done | with_reducible rfl)
  (try simp only [Act.put, List.setIfInBounds_toArray, List.set_cons_zero, List.set_cons_succ])
  refine wpAnyH_ready (rs := [13, 15]) (by kernel_rfl) (by simp) (AllReadyH.cons (get_at rfl) (fun K hK => ?_) (AllReadyH.cons (get_at rfl) (fun K hK => ?_) AllReadyH.nil))
  · go_simp
    refine hK.out _ _ ?s13X (fun hHeld => ?_)
    case s13X => exact hHeld
    clear hK K
    (try simp only [Act.put, List.setIfInBounds_toArray, List.set_cons_zero, List.set_cons_succ])
    refine wpAnyH_one (i := 15) (by kernel_rfl) rfl (fun K hK => ?_)
    go_simp
    refine hK.out _ _ ?s15X (fun hHeld => ?_)
    case s15X => exact HK2.out _
    clear hK K
    (try simp only [Act.put, List.setIfInBounds_toArray, List.set_cons_zero, List.set_cons_succ])
    refine wpAnyH_one (i := 16) (by kernel_rfl) rfl (fun K hK => ?_)
    refine step_append_tail rfl (.tmp 29) (.tmp 31) 23 rfl 25 i0 _ 6 48 Tryd.underlying23 hi0 hz0 hz1' hz2 rfl (by decide) (.slice ao (L an).length cap) (L an).length (rlCells (L an)) (by simp [Act.eval, Act.put]) (Hown.out _ (((Keeps.refl _ _).drew).alloc _)) ⟨wq.heap.size, 0, none⟩ 1 1 [.int .i64 2, .int .i64 head, .int .i64 who, .int .i64 an, .int .i64 b, .int .i64 via] (by simp [Act.eval, Act.put]) rfl (cells_new _ _ _) (by intro u hu; simp only [List.mem_cons, List.not_mem_nil, or_false] at hu; rcases hu with rfl | rfl | rfl | rfl | rfl | rfl <;> rfl) (by omega) (by unfold maxLen; omega) (by omega) ?_
    intro ao' cap' w2 hown hgrow hfp
    obtain ⟨e1, e3, e4, e5, HP⟩ := HG.out _ _ _ _ (((Keeps.refl _ _).drew).alloc _) hown hgrow hfp
    clear hown hgrow hfp
    refine hK.out _ _ ?s16X (fun hHeld => ?_)
    case s16X => exact e1
    clear hK K
    (try simp only [Act.put, List.setIfInBounds_toArray, List.set_cons_zero, List.set_cons_succ])
    refine wpAnyH_take_at (i := 17) (v := ?v17X) rfl (by kernel_rfl) (by kernel_rfl) (by kernel_rfl) (fun _ _ _ h => h) (Or.inl ⟨by rfl, ?y17X⟩) hHeld ?r17X
    case y17X => (intro w hSw; (try dsimp only at hSw); go_simp; first | done | with_reducible rfl)
    (try simp only [Act.put, List.setIfInBounds_toArray, List.set_cons_zero, List.set_cons_succ])
    refine wpAnyH_one (i := 18) (by kernel_rfl) rfl (fun K hK => ?_)
    go_simp
    refine hK.out _ _ ?s18X (fun hHeld => ?_)
    case s18X => exact e5
    clear hK K
    (try simp only [Act.put, List.setIfInBounds_toArray, List.set_cons_zero, List.set_cons_succ])
    refine wpAnyH_done (by kernel_rfl) ?_ _
    refine NoPanic.normal ?_
    go_wp2_with fail
    go_end0
    exact HP.out
  · go_simp
    refine hK.out _ _ ?s15Z (fun hHeld => ?_)
    case s15Z => exact HK2.out _
    clear hK K
    (try simp only [Act.put, List.setIfInBounds_toArray, List.set_cons_zero, List.set_cons_succ])
    refine wpAnyH_one (i := 13) (by kernel_rfl) rfl (fun K hK => ?_)
    go_simp
    refine hK.out _ _ ?s13Z (fun hHeld => ?_)
    case s13Z => exact hHeld
    clear hK K
    (try simp only [Act.put, List.setIfInBounds_toArray, List.set_cons_zero, List.set_cons_succ])
    refine wpAnyH_one (i := 16) (by kernel_rfl) rfl (fun K hK => ?_)
    refine step_append_tail rfl (.tmp 29) (.tmp 31) 23 rfl 25 i0 _ 6 48 Tryd.underlying23 hi0 hz0 hz1' hz2 rfl (by decide) (.slice ao (L an).length cap) (L an).length (rlCells (L an)) (by simp [Act.eval, Act.put]) (Hown.out _ (((Keeps.refl _ _).drew).alloc _)) ⟨wq.heap.size, 0, none⟩ 1 1 [.int .i64 2, .int .i64 head, .int .i64 who, .int .i64 an, .int .i64 b, .int .i64 via] (by simp [Act.eval, Act.put]) rfl (cells_new _ _ _) (by intro u hu; simp only [List.mem_cons, List.not_mem_nil, or_false] at hu; rcases hu with rfl | rfl | rfl | rfl | rfl | rfl <;> rfl) (by omega) (by unfold maxLen; omega) (by omega) ?_
    intro ao' cap' w2 hown hgrow hfp
    obtain ⟨e1, e3, e4, e5, HP⟩ := HG.out _ _ _ _ (((Keeps.refl _ _).drew).alloc _) hown hgrow hfp
    clear hown hgrow hfp
    refine hK.out _ _ ?s16Z (fun hHeld => ?_)
    case s16Z => exact e1
    clear hK K
    (try simp only [Act.put, List.setIfInBounds_toArray, List.set_cons_zero, List.set_cons_succ])
    refine wpAnyH_take_at (i := 17) (v := ?v17Z) rfl (by kernel_rfl) (by kernel_rfl) (by kernel_rfl) (fun _ _ _ h => h) (Or.inl ⟨by rfl, ?y17Z⟩) hHeld ?r17Z
    case y17Z => (intro w hSw; (try dsimp only at hSw); go_simp; first | done | with_reducible rfl)
    (try simp only [Act.put, List.setIfInBounds_toArray, List.set_cons_zero, List.set_cons_succ])
    refine wpAnyH_one (i := 18) (by kernel_rfl) rfl (fun K hK => ?_)
    go_simp
    refine hK.out _ _ ?s18Z (fun hHeld => ?_)
    case s18Z => exact e5
    clear hK K
    (try simp only [Act.put, List.setIfInBounds_toArray, List.set_cons_zero, List.set_cons_succ])
    refine wpAnyH_done (by kernel_rfl) ?_ _
    refine NoPanic.normal ?_
    go_wp2_with fail
    go_end0
    exact HP.out
set_option maxRecDepth 100000 in
set_option maxHeartbeats 3200000 in
theorem sput_link (h : SemAt W M vr L s vq) (hs : s.steps ≤ 10000000000000000) (hL : ∀ i, (L i).length ≤ 1000000) (head who b : Int) (an vn : Nat) (ha : an < M.N) (hvK : vn < M.K) :
    Calls Tryd.prog 22 #[.pointer (some ⟨M.mb, 0, none⟩), .agg #[.int .i64 3, .int .i64 head, .int .i64 who, .int .i64 an, .int .i64 b, .int .i64 vn]] W (PutPost M vr (addL (addL L (M.N + vn) ⟨3, head, who, an, b, vn⟩) an ⟨3, head, who, an, b, vn⟩) vq s.tick W) := by
  have hP64 := h.hP
  have hK64 := h.hK
  have hNle : M.N ≤ 64 * 64 := Nat.mul_le_mul hP64 hK64
  have hbx := PutAt.box h ⟨3, head, who, an, b, vn⟩
  obtain ⟨n0, n1, n2, n3⟩ := hbx.at_.mcells
  obtain ⟨o0, o1, o2, o3⟩ := hbx.at_.ocells
  have fo := hbx.at_.free.2 3
  obtain ⟨r0, r1, r2, r3, r4, r5⟩ := hbx.rule
  have htk := hbx.tick
  rw [show ((s.steps + 1 : Nat) : Int) = (s.steps : Int) + 1 from by omega] at htk
  have hwt : IntKind.i64.wrap ((s.steps : Int) + 1) = (s.steps : Int) + 1 := IntWalk.i64_in _ (by omega)
  unfold ruleObj at *
  simp only [] at n0 n1 n2 n3 o0 o1 o2 o3 fo r0 r1 r2 r3 r4 r5 htk
  clear hbx
  obtain ⟨i0, hi0, hz0, hz1', hz2⟩ := info_parts rlInfo
  have haI : (an : Int) < (M.N : Int) := by omega
  have hvI : (vn : Int) < (M.K : Int) := by omega
  go_enter Tryd.func22, Tryd.ntmps22
  go_upto_region 2 with fail
  generalize (W.alloc (.cells #[.int .i64 3, .int .i64 head, .int .i64 who, .int .i64 an, .int .i64 b, .int .i64 vn] 25)).setCell ⟨M.mo, 3, none⟩ (.int .i64 ((s.steps : Int) + 1)) = wq at htk ⊢
  clear n0 n1 n2 n3 o0 o1 o2 o3 fo r0 r1 r2 r3 r4 r5 h
  obtain ⟨p1, p2, p3, p4, p5, p6, p7, p8⟩ := htk.rd.cells
  simp only [] at p3 p4 p5 p6 p7 p8
  go_upto_region 7 with fail
  clear p1 p2 p3 p4 p5 p6 p7 p8
  have HL := Lib.hid hL
  go_cut [] (fun wx => ∃ vr', Hid (PutAt W M vr vr' (addL L (M.N + vn) ⟨3, head, who, an, b, vn⟩) vq W.heap.size ⟨3, head, who, an, b, vn⟩ s.tick vq wx))
  case first =>
    have HQ := Lib.hid htk
    obtain ⟨ao, cap, hv, hle, hmx⟩ := htk.at_.rowV (i := (M.N + vn)) (by omega)
    have hlen : (L (M.N + vn)).length ≤ 1000001 := Nat.le_succ_of_le (hL _)
    have hS0 : (fun w' => w'.cell? ⟨M.mb, 1, none⟩ = some (.slice (some ⟨M.bb, 0, none⟩) M.N M.N) ∧ w'.cell? ⟨M.mb, 2, none⟩ = some (.slice (some ⟨M.vb, 0, none⟩) M.K M.K) ∧ w'.cell? ⟨W.heap.size, 0, none⟩ = some (.int .i64 3) ∧ w'.cell? ⟨W.heap.size, 1, none⟩ = some (.int .i64 head) ∧ w'.cell? ⟨W.heap.size, 2, none⟩ = some (.int .i64 who) ∧ w'.cell? ⟨W.heap.size, 3, none⟩ = some (.int .i64 an) ∧ w'.cell? ⟨W.heap.size, 4, none⟩ = some (.int .i64 b) ∧ w'.cell? ⟨W.heap.size, 5, none⟩ = some (.int .i64 vn)) wq.drew := (htk.quiet ((Keeps.refl _ _).drew)).rd.cells
    have HK2 : Hid (∀ o, (fun w' => w'.cell? ⟨M.mb, 1, none⟩ = some (.slice (some ⟨M.bb, 0, none⟩) M.N M.N) ∧ w'.cell? ⟨M.mb, 2, none⟩ = some (.slice (some ⟨M.vb, 0, none⟩) M.K M.K) ∧ w'.cell? ⟨W.heap.size, 0, none⟩ = some (.int .i64 3) ∧ w'.cell? ⟨W.heap.size, 1, none⟩ = some (.int .i64 head) ∧ w'.cell? ⟨W.heap.size, 2, none⟩ = some (.int .i64 who) ∧ w'.cell? ⟨W.heap.size, 3, none⟩ = some (.int .i64 an) ∧ w'.cell? ⟨W.heap.size, 4, none⟩ = some (.int .i64 b) ∧ w'.cell? ⟨W.heap.size, 5, none⟩ = some (.int .i64 vn)) (wq.drew.alloc o)) := fun o => (HQ.out.quiet (((Keeps.refl _ _).drew).alloc o)).rd.cells
    have pba : wq.cell? ⟨M.vb, vn, none⟩ = some (.slice ao (L (M.N + vn)).length cap) := by rw [← hv]; exact htk.rd.vc vn hvK
    have pfa : wq.frozen? ⟨M.vb, vn, none⟩ = false := htk.rd.vf vn
    have lb : M.vb < wq.heap.size := lt_of_cell pba
    have Hown : Hid (∀ W', Keeps (fun _ => False) wq W' → TailRow W' 25 6 (.slice ao (L (M.N + vn)).length cap) (L (M.N + vn)).length (rlCells (L (M.N + vn)))) := fun W' hk => by
      have := (HQ.out.at_.keeps hk).rows ((M.N + vn)) (by omega)
      rw [hv] at this
      exact this
    have HG : Hid (∀ W1 W2 ao' cap', Keeps (fun _ => False) wq W1 → TailRow W2 25 6 (.slice ao' ((L (M.N + vn)).length + 1) cap') ((L (M.N + vn)).length + 1) (rlCells (L (M.N + vn)) ++ [.int .i64 3, .int .i64 head, .int .i64 who, .int .i64 an, .int .i64 b, .int .i64 vn]) → W1.grownBy W2 (Value.slice ao (L (M.N + vn)).length cap).ownBlock → (∀ k, (Value.slice ao' ((L (M.N + vn)).length + 1) cap').ownBlock = some k → (Value.slice ao (L (M.N + vn)).length cap).ownBlock = some k ∨ W1.heap.size ≤ k) →
        (fun w' => w'.cell? ⟨M.mb, 1, none⟩ = some (.slice (some ⟨M.bb, 0, none⟩) M.N M.N) ∧ w'.cell? ⟨M.mb, 2, none⟩ = some (.slice (some ⟨M.vb, 0, none⟩) M.K M.K) ∧ w'.cell? ⟨W.heap.size, 0, none⟩ = some (.int .i64 3) ∧ w'.cell? ⟨W.heap.size, 1, none⟩ = some (.int .i64 head) ∧ w'.cell? ⟨W.heap.size, 2, none⟩ = some (.int .i64 who) ∧ w'.cell? ⟨W.heap.size, 3, none⟩ = some (.int .i64 an) ∧ w'.cell? ⟨W.heap.size, 4, none⟩ = some (.int .i64 b) ∧ w'.cell? ⟨W.heap.size, 5, none⟩ = some (.int .i64 vn)) W2 ∧ W2.cell? ⟨M.vb, vn, none⟩ = some (.slice ao (L (M.N + vn)).length cap) ∧ W2.frozen? ⟨M.vb, vn, none⟩ = false ∧ (fun w' => w'.cell? ⟨M.mb, 1, none⟩ = some (.slice (some ⟨M.bb, 0, none⟩) M.N M.N) ∧ w'.cell? ⟨M.mb, 2, none⟩ = some (.slice (some ⟨M.vb, 0, none⟩) M.K M.K) ∧ w'.cell? ⟨W.heap.size, 0, none⟩ = some (.int .i64 3) ∧ w'.cell? ⟨W.heap.size, 1, none⟩ = some (.int .i64 head) ∧ w'.cell? ⟨W.heap.size, 2, none⟩ = some (.int .i64 who) ∧ w'.cell? ⟨W.heap.size, 3, none⟩ = some (.int .i64 an) ∧ w'.cell? ⟨W.heap.size, 4, none⟩ = some (.int .i64 b) ∧ w'.cell? ⟨W.heap.size, 5, none⟩ = some (.int .i64 vn)) (W2.setCell ⟨M.vb, vn, none⟩ (.slice ao' ((L (M.N + vn)).length + 1) cap')) ∧ (∃ vr', Hid (PutAt W M vr vr' (addL L (M.N + vn) ⟨3, head, who, an, b, vn⟩) vq W.heap.size ⟨3, head, who, an, b, vn⟩ s.tick vq (W2.setCell ⟨M.vb, vn, none⟩ (.slice ao' ((L (M.N + vn)).length + 1) cap'))))) := fun W1 W2 ao' cap' k1 ho hgr hfp => by
      rw [← hv] at hgr hfp
      obtain ⟨a1, a2⟩ := HQ.out.grow (g := (M.N + vn)) (by omega) k1 ho hgr hfp
      have a3 := a2 ⟨M.vb, vn, none⟩ (.inr ⟨Nat.le_add_right _ _, by rw [Nat.add_sub_cancel_left]⟩)
      exact ⟨a1.cells, by rw [← hv]; exact a1.vc vn hvK, a1.vf vn, a3.out.rd.cells, ⟨_, a3⟩⟩
    clear htk hv
    refine wp_region_noPanic ?_
    refine wp_region_held_drew (S := fun w' => w'.cell? ⟨M.mb, 1, none⟩ = some (.slice (some ⟨M.bb, 0, none⟩) M.N M.N) ∧ w'.cell? ⟨M.mb, 2, none⟩ = some (.slice (some ⟨M.vb, 0, none⟩) M.K M.K) ∧ w'.cell? ⟨W.heap.size, 0, none⟩ = some (.int .i64 3) ∧ w'.cell? ⟨W.heap.size, 1, none⟩ = some (.int .i64 head) ∧ w'.cell? ⟨W.heap.size, 2, none⟩ = some (.int .i64 who) ∧ w'.cell? ⟨W.heap.size, 3, none⟩ = some (.int .i64 an) ∧ w'.cell? ⟨W.heap.size, 4, none⟩ = some (.int .i64 b) ∧ w'.cell? ⟨W.heap.size, 5, none⟩ = some (.int .i64 vn)) (by kernel_rfl) hS0 (fun hHeld => ?_)
    refine wpAnyH_take_at (i := 0) (v := ?v0P) rfl (by kernel_rfl) (by kernel_rfl) (by kernel_rfl) (fun _ _ _ h => h) (Or.inl ⟨by rfl, ?y0P⟩) hHeld ?r0P
    case y0P => (intro w hSw; (try dsimp only at hSw); go_simp; first | done | with_reducible rfl)
    (try simp only [Act.put, List.setIfInBounds_toArray, List.set_cons_zero, List.set_cons_succ])
    refine wpAnyH_take_at (i := 1) (v := ?v1P) rfl (by kernel_rfl) (by kernel_rfl) (by kernel_rfl) (fun _ _ _ h => h) (Or.inl ⟨by rfl, ?y1P⟩) hHeld ?r1P
    case y1P => (intro w hSw; (try dsimp only at hSw); go_simp; first | done | with_reducible rfl)
    (try simp only [Act.put, List.setIfInBounds_toArray, List.set_cons_zero, List.set_cons_succ])
    refine wpAnyH_take_at (i := 2) (v := ?v2P) rfl (by kernel_rfl) (by kernel_rfl) (by kernel_rfl) (fun _ _ _ h => h) (Or.inl ⟨by rfl, ?y2P⟩) hHeld ?r2P
    case y2P => (intro w hSw; (try dsimp only at hSw); go_simp; first | done | with_reducible rfl)
    (try simp only [Act.put, List.setIfInBounds_toArray, List.set_cons_zero, List.set_cons_succ])
    refine wpAnyH_take_at (i := 3) (v := ?v3P) rfl (by kernel_rfl) (by kernel_rfl) (by kernel_rfl) (fun _ _ _ h => h) (Or.inl ⟨by rfl, ?y3P⟩) hHeld ?r3P
    case y3P => (intro w hSw; (try dsimp only at hSw); go_simp; first | done | with_reducible rfl)
    (try simp only [Act.put, List.setIfInBounds_toArray, List.set_cons_zero, List.set_cons_succ])
    refine wpAnyH_take_at (i := 4) (v := ?v4P) rfl (by kernel_rfl) (by kernel_rfl) (by kernel_rfl) (fun _ _ _ h => h) (Or.inl ⟨by rfl, ?y4P⟩) hHeld ?r4P
    case y4P => (intro w hSw; (try dsimp only at hSw); go_simp; first | done | with_reducible rfl)
    (try simp only [Act.put, List.setIfInBounds_toArray, List.set_cons_zero, List.set_cons_succ])
    refine wpAnyH_take_at (i := 5) (v := ?v5P) rfl (by kernel_rfl) (by kernel_rfl) (by kernel_rfl) (fun _ _ _ h => h) (Or.inl ⟨by rfl, ?y5P⟩) hHeld ?r5P
    case y5P => (intro w hSw; (try dsimp only at hSw); go_simp; first | done | with_reducible rfl)
    (try simp only [Act.put, List.setIfInBounds_toArray, List.set_cons_zero, List.set_cons_succ])
    refine wpAnyH_take_at (i := 6) (v := ?v6P) rfl (by kernel_rfl) (by kernel_rfl) (by kernel_rfl) (fun _ _ _ h => h) (Or.inl ⟨by rfl, ?y6P⟩) hHeld ?r6P
    case y6P => (intro w hSw; (try dsimp only at hSw); go_simp; first | done | with_reducible rfl)
    (try simp only [Act.put, List.setIfInBounds_toArray, List.set_cons_zero, List.set_cons_succ])
    refine wpAnyH_take_at (i := 7) (v := ?v7P) rfl (by kernel_rfl) (by kernel_rfl) (by kernel_rfl) (fun _ _ _ h => h) (Or.inl ⟨by rfl, ?y7P⟩) hHeld ?r7P
    case y7P => (intro w hSw; (try dsimp only at hSw); go_simp; first | done | with_reducible rfl)
    (try simp only [Act.put, List.setIfInBounds_toArray, List.set_cons_zero, List.set_cons_succ])
    refine wpAnyH_take_at (i := 8) (v := ?v8P) rfl (by kernel_rfl) (by kernel_rfl) (by kernel_rfl) (fun _ _ _ h => h) (Or.inl ⟨by rfl, ?y8P⟩) hHeld ?r8P
    case y8P => (intro w hSw; (try dsimp only at hSw); go_simp; first | done | with_reducible rfl)
    (try simp only [Act.put, List.setIfInBounds_toArray, List.set_cons_zero, List.set_cons_succ])
    refine wpAnyH_take_at (i := 9) (v := ?v9P) rfl (by kernel_rfl) (by kernel_rfl) (by kernel_rfl) (fun _ _ _ h => h) (Or.inl ⟨by rfl, ?y9P⟩) hHeld ?r9P
    case y9P => (intro w hSw; (try dsimp only at hSw); go_simp; first | done | with_reducible rfl)
    (try simp only [Act.put, List.setIfInBounds_toArray, List.set_cons_zero, List.set_cons_succ])
    refine wpAnyH_take_at (i := 10) (v := ?v10P) rfl (by kernel_rfl) (by kernel_rfl) (by kernel_rfl) (fun _ _ _ h => h) (Or.inl ⟨by rfl, ?y10P⟩) hHeld ?r10P
    case y10P => (intro w hSw; (try dsimp only at hSw); go_simp; first | done | with_reducible rfl)
    (try simp only [Act.put, List.setIfInBounds_toArray, List.set_cons_zero, List.set_cons_succ])
    refine wpAnyH_take_at (i := 11) (v := ?v11P) rfl (by kernel_rfl) (by kernel_rfl) (by kernel_rfl) (fun _ _ _ h => h) (Or.inl ⟨by rfl, ?y11P⟩) hHeld ?r11P
    case y11P => (intro w hSw; (try dsimp only at hSw); go_simp; first | done | with_reducible rfl)
    (try simp only [Act.put, List.setIfInBounds_toArray, List.set_cons_zero, List.set_cons_succ])
    refine wpAnyH_take_at (i := 12) (v := ?v12P) rfl (by kernel_rfl) (by kernel_rfl) (by kernel_rfl) (fun _ _ _ h => h) (Or.inl ⟨by rfl, ?y12P⟩) hHeld ?r12P
    case y12P => (intro w hSw; (try dsimp only at hSw); go_simp; first | done | with_reducible rfl)
    (try simp only [Act.put, List.setIfInBounds_toArray, List.set_cons_zero, List.set_cons_succ])
    refine wpAnyH_take_at (i := 14) (v := ?v14P) rfl (by kernel_rfl) (by kernel_rfl) (by kernel_rfl) (fun _ _ _ h => h) (Or.inl ⟨by rfl, ?y14P⟩) hHeld ?r14P
    case y14P => (intro w hSw; (try dsimp only at hSw); go_simp; first | done | with_reducible rfl)
    (try simp only [Act.put, List.setIfInBounds_toArray, List.set_cons_zero, List.set_cons_succ])
    refine wpAnyH_ready (rs := [13, 15]) (by kernel_rfl) (by simp) (AllReadyH.cons (get_at rfl) (fun K hK => ?_) (AllReadyH.cons (get_at rfl) (fun K hK => ?_) AllReadyH.nil))
    · go_simp
      refine hK.out _ _ ?s13PX (fun hHeld => ?_)
      case s13PX => exact hHeld
      clear hK K
      (try simp only [Act.put, List.setIfInBounds_toArray, List.set_cons_zero, List.set_cons_succ])
      refine wpAnyH_one (i := 15) (by kernel_rfl) rfl (fun K hK => ?_)
      go_simp
      refine hK.out _ _ ?s15PX (fun hHeld => ?_)
      case s15PX => exact HK2.out _
      clear hK K
      (try simp only [Act.put, List.setIfInBounds_toArray, List.set_cons_zero, List.set_cons_succ])
      refine wpAnyH_one (i := 16) (by kernel_rfl) rfl (fun K hK => ?_)
      refine step_append_tail rfl (.tmp 57) (.tmp 59) 23 rfl 25 i0 _ 6 48 Tryd.underlying23 hi0 hz0 hz1' hz2 rfl (by decide) (.slice ao (L (M.N + vn)).length cap) (L (M.N + vn)).length (rlCells (L (M.N + vn))) (by simp [Act.eval, Act.put]) (Hown.out _ (((Keeps.refl _ _).drew).alloc _)) ⟨wq.heap.size, 0, none⟩ 1 1 [.int .i64 3, .int .i64 head, .int .i64 who, .int .i64 an, .int .i64 b, .int .i64 vn] (by simp [Act.eval, Act.put]) rfl (cells_new _ _ _) (by intro u hu; simp only [List.mem_cons, List.not_mem_nil, or_false] at hu; rcases hu with rfl | rfl | rfl | rfl | rfl | rfl <;> rfl) (by omega) (by unfold maxLen; omega) (by omega) ?_
      intro ao' cap' w2 hown hgrow hfp
      obtain ⟨e1, e3, e4, e5, HP⟩ := HG.out _ _ _ _ (((Keeps.refl _ _).drew).alloc _) hown hgrow hfp
      clear hown hgrow hfp
      refine hK.out _ _ ?s16PX (fun hHeld => ?_)
      case s16PX => exact e1
      clear hK K
      (try simp only [Act.put, List.setIfInBounds_toArray, List.set_cons_zero, List.set_cons_succ])
      refine wpAnyH_take_at (i := 17) (v := ?v17PX) rfl (by kernel_rfl) (by kernel_rfl) (by kernel_rfl) (fun _ _ _ h => h) (Or.inl ⟨by rfl, ?y17PX⟩) hHeld ?r17PX
      case y17PX => (intro w hSw; (try dsimp only at hSw); go_simp; first | done | with_reducible rfl)
      (try simp only [Act.put, List.setIfInBounds_toArray, List.set_cons_zero, List.set_cons_succ])
      refine wpAnyH_one (i := 18) (by kernel_rfl) rfl (fun K hK => ?_)
      go_simp
      refine hK.out _ _ ?s18PX (fun hHeld => ?_)
      case s18PX => exact e5
      clear hK K
      (try simp only [Act.put, List.setIfInBounds_toArray, List.set_cons_zero, List.set_cons_succ])
      refine wpAnyH_done (by kernel_rfl) ?_ _
      refine NoPanic.normal ?_
      go_wp2_with fail
      go_meet
      exact HP
    · go_simp
      refine hK.out _ _ ?s15PZ (fun hHeld => ?_)
      case s15PZ => exact HK2.out _
      clear hK K
      (try simp only [Act.put, List.setIfInBounds_toArray, List.set_cons_zero, List.set_cons_succ])
      refine wpAnyH_one (i := 13) (by kernel_rfl) rfl (fun K hK => ?_)
      go_simp
      refine hK.out _ _ ?s13PZ (fun hHeld => ?_)
      case s13PZ => exact hHeld
      clear hK K
      (try simp only [Act.put, List.setIfInBounds_toArray, List.set_cons_zero, List.set_cons_succ])
      refine wpAnyH_one (i := 16) (by kernel_rfl) rfl (fun K hK => ?_)
      refine step_append_tail rfl (.tmp 57) (.tmp 59) 23 rfl 25 i0 _ 6 48 Tryd.underlying23 hi0 hz0 hz1' hz2 rfl (by decide) (.slice ao (L (M.N + vn)).length cap) (L (M.N + vn)).length (rlCells (L (M.N + vn))) (by simp [Act.eval, Act.put]) (Hown.out _ (((Keeps.refl _ _).drew).alloc _)) ⟨wq.heap.size, 0, none⟩ 1 1 [.int .i64 3, .int .i64 head, .int .i64 who, .int .i64 an, .int .i64 b, .int .i64 vn] (by simp [Act.eval, Act.put]) rfl (cells_new _ _ _) (by intro u hu; simp only [List.mem_cons, List.not_mem_nil, or_false] at hu; rcases hu with rfl | rfl | rfl | rfl | rfl | rfl <;> rfl) (by omega) (by unfold maxLen; omega) (by omega) ?_
      intro ao' cap' w2 hown hgrow hfp
      obtain ⟨e1, e3, e4, e5, HP⟩ := HG.out _ _ _ _ (((Keeps.refl _ _).drew).alloc _) hown hgrow hfp
      clear hown hgrow hfp
      refine hK.out _ _ ?s16PZ (fun hHeld => ?_)
      case s16PZ => exact e1
      clear hK K
      (try simp only [Act.put, List.setIfInBounds_toArray, List.set_cons_zero, List.set_cons_succ])
      refine wpAnyH_take_at (i := 17) (v := ?v17PZ) rfl (by kernel_rfl) (by kernel_rfl) (by kernel_rfl) (fun _ _ _ h => h) (Or.inl ⟨by rfl, ?y17PZ⟩) hHeld ?r17PZ
      case y17PZ => (intro w hSw; (try dsimp only at hSw); go_simp; first | done | with_reducible rfl)
      (try simp only [Act.put, List.setIfInBounds_toArray, List.set_cons_zero, List.set_cons_succ])
      refine wpAnyH_one (i := 18) (by kernel_rfl) rfl (fun K hK => ?_)
      go_simp
      refine hK.out _ _ ?s18PZ (fun hHeld => ?_)
      case s18PZ => exact e5
      clear hK K
      (try simp only [Act.put, List.setIfInBounds_toArray, List.set_cons_zero, List.set_cons_succ])
      refine wpAnyH_done (by kernel_rfl) ?_ _
      refine NoPanic.normal ?_
      go_wp2_with fail
      go_meet
      exact HP
  case rest =>
    obtain ⟨vr1, hq1⟩ := hcut
    have htk := hq1.out
    clear hq1
    have p1 : True := trivial
    clear p1
    have HQ := Lib.hid htk
    obtain ⟨ao, cap, hv, hle, hmx⟩ := htk.at_.rowV (i := an) (by omega)
    have hlen : ((addL L (M.N + vn) ⟨3, head, who, an, b, vn⟩) an).length ≤ 1000001 := by have := HL.out an; unfold addL; split <;> (try rw [List.length_append]; show _ + 1 ≤ _) <;> omega
    have hS0 : (fun w' => w'.cell? ⟨M.mb, 1, none⟩ = some (.slice (some ⟨M.bb, 0, none⟩) M.N M.N) ∧ w'.cell? ⟨M.mb, 2, none⟩ = some (.slice (some ⟨M.vb, 0, none⟩) M.K M.K) ∧ w'.cell? ⟨W.heap.size, 0, none⟩ = some (.int .i64 3) ∧ w'.cell? ⟨W.heap.size, 1, none⟩ = some (.int .i64 head) ∧ w'.cell? ⟨W.heap.size, 2, none⟩ = some (.int .i64 who) ∧ w'.cell? ⟨W.heap.size, 3, none⟩ = some (.int .i64 an) ∧ w'.cell? ⟨W.heap.size, 4, none⟩ = some (.int .i64 b) ∧ w'.cell? ⟨W.heap.size, 5, none⟩ = some (.int .i64 vn)) wc.drew := (htk.quiet ((Keeps.refl _ _).drew)).rd.cells
    have HK2 : Hid (∀ o, (fun w' => w'.cell? ⟨M.mb, 1, none⟩ = some (.slice (some ⟨M.bb, 0, none⟩) M.N M.N) ∧ w'.cell? ⟨M.mb, 2, none⟩ = some (.slice (some ⟨M.vb, 0, none⟩) M.K M.K) ∧ w'.cell? ⟨W.heap.size, 0, none⟩ = some (.int .i64 3) ∧ w'.cell? ⟨W.heap.size, 1, none⟩ = some (.int .i64 head) ∧ w'.cell? ⟨W.heap.size, 2, none⟩ = some (.int .i64 who) ∧ w'.cell? ⟨W.heap.size, 3, none⟩ = some (.int .i64 an) ∧ w'.cell? ⟨W.heap.size, 4, none⟩ = some (.int .i64 b) ∧ w'.cell? ⟨W.heap.size, 5, none⟩ = some (.int .i64 vn)) (wc.drew.alloc o)) := fun o => (HQ.out.quiet (((Keeps.refl _ _).drew).alloc o)).rd.cells
    have pba : wc.cell? ⟨M.bb, an, none⟩ = some (.slice ao ((addL L (M.N + vn) ⟨3, head, who, an, b, vn⟩) an).length cap) := by rw [← hv]; exact htk.rd.bc an ha
    have pfa : wc.frozen? ⟨M.bb, an, none⟩ = false := htk.rd.bf an
    have lb : M.bb < wc.heap.size := lt_of_cell pba
    have Hown : Hid (∀ W', Keeps (fun _ => False) wc W' → TailRow W' 25 6 (.slice ao ((addL L (M.N + vn) ⟨3, head, who, an, b, vn⟩) an).length cap) ((addL L (M.N + vn) ⟨3, head, who, an, b, vn⟩) an).length (rlCells ((addL L (M.N + vn) ⟨3, head, who, an, b, vn⟩) an))) := fun W' hk => by
      have := (HQ.out.at_.keeps hk).rows (an) (by omega)
      rw [hv] at this
      exact this
    have HG : Hid (∀ W1 W2 ao' cap', Keeps (fun _ => False) wc W1 → TailRow W2 25 6 (.slice ao' (((addL L (M.N + vn) ⟨3, head, who, an, b, vn⟩) an).length + 1) cap') (((addL L (M.N + vn) ⟨3, head, who, an, b, vn⟩) an).length + 1) (rlCells ((addL L (M.N + vn) ⟨3, head, who, an, b, vn⟩) an) ++ [.int .i64 3, .int .i64 head, .int .i64 who, .int .i64 an, .int .i64 b, .int .i64 vn]) → W1.grownBy W2 (Value.slice ao ((addL L (M.N + vn) ⟨3, head, who, an, b, vn⟩) an).length cap).ownBlock → (∀ k, (Value.slice ao' (((addL L (M.N + vn) ⟨3, head, who, an, b, vn⟩) an).length + 1) cap').ownBlock = some k → (Value.slice ao ((addL L (M.N + vn) ⟨3, head, who, an, b, vn⟩) an).length cap).ownBlock = some k ∨ W1.heap.size ≤ k) →
        (fun w' => w'.cell? ⟨M.mb, 1, none⟩ = some (.slice (some ⟨M.bb, 0, none⟩) M.N M.N) ∧ w'.cell? ⟨M.mb, 2, none⟩ = some (.slice (some ⟨M.vb, 0, none⟩) M.K M.K) ∧ w'.cell? ⟨W.heap.size, 0, none⟩ = some (.int .i64 3) ∧ w'.cell? ⟨W.heap.size, 1, none⟩ = some (.int .i64 head) ∧ w'.cell? ⟨W.heap.size, 2, none⟩ = some (.int .i64 who) ∧ w'.cell? ⟨W.heap.size, 3, none⟩ = some (.int .i64 an) ∧ w'.cell? ⟨W.heap.size, 4, none⟩ = some (.int .i64 b) ∧ w'.cell? ⟨W.heap.size, 5, none⟩ = some (.int .i64 vn)) W2 ∧ W2.cell? ⟨M.bb, an, none⟩ = some (.slice ao ((addL L (M.N + vn) ⟨3, head, who, an, b, vn⟩) an).length cap) ∧ W2.frozen? ⟨M.bb, an, none⟩ = false ∧ (fun w' => w'.cell? ⟨M.mb, 1, none⟩ = some (.slice (some ⟨M.bb, 0, none⟩) M.N M.N) ∧ w'.cell? ⟨M.mb, 2, none⟩ = some (.slice (some ⟨M.vb, 0, none⟩) M.K M.K) ∧ w'.cell? ⟨W.heap.size, 0, none⟩ = some (.int .i64 3) ∧ w'.cell? ⟨W.heap.size, 1, none⟩ = some (.int .i64 head) ∧ w'.cell? ⟨W.heap.size, 2, none⟩ = some (.int .i64 who) ∧ w'.cell? ⟨W.heap.size, 3, none⟩ = some (.int .i64 an) ∧ w'.cell? ⟨W.heap.size, 4, none⟩ = some (.int .i64 b) ∧ w'.cell? ⟨W.heap.size, 5, none⟩ = some (.int .i64 vn)) (W2.setCell ⟨M.bb, an, none⟩ (.slice ao' (((addL L (M.N + vn) ⟨3, head, who, an, b, vn⟩) an).length + 1) cap')) ∧ Hid (PutPost M vr (addL (addL L (M.N + vn) ⟨3, head, who, an, b, vn⟩) an ⟨3, head, who, an, b, vn⟩) vq s.tick W (.returned (.tuple #[])) (W2.setCell ⟨M.bb, an, none⟩ (.slice ao' (((addL L (M.N + vn) ⟨3, head, who, an, b, vn⟩) an).length + 1) cap')))) := fun W1 W2 ao' cap' k1 ho hgr hfp => by
      rw [← hv] at hgr hfp
      obtain ⟨a1, a2⟩ := HQ.out.grow (g := an) (by omega) k1 ho hgr hfp
      have a3 := a2 ⟨M.bb, an, none⟩ (.inl ⟨ha, rfl⟩)
      exact ⟨a1.cells, by rw [← hv]; exact a1.bc an ha, a1.bf an, a3.out.rd.cells, a3.out.post rfl⟩
    clear htk hv
    go_upto_region 8 with fail
    refine wp_region_noPanic ?_
    refine wp_region_held_drew (S := fun w' => w'.cell? ⟨M.mb, 1, none⟩ = some (.slice (some ⟨M.bb, 0, none⟩) M.N M.N) ∧ w'.cell? ⟨M.mb, 2, none⟩ = some (.slice (some ⟨M.vb, 0, none⟩) M.K M.K) ∧ w'.cell? ⟨W.heap.size, 0, none⟩ = some (.int .i64 3) ∧ w'.cell? ⟨W.heap.size, 1, none⟩ = some (.int .i64 head) ∧ w'.cell? ⟨W.heap.size, 2, none⟩ = some (.int .i64 who) ∧ w'.cell? ⟨W.heap.size, 3, none⟩ = some (.int .i64 an) ∧ w'.cell? ⟨W.heap.size, 4, none⟩ = some (.int .i64 b) ∧ w'.cell? ⟨W.heap.size, 5, none⟩ = some (.int .i64 vn)) (by kernel_rfl) hS0 (fun hHeld => ?_)
    refine wpAnyH_take_at (i := 0) (v := ?v0Q) rfl (by kernel_rfl) (by kernel_rfl) (by kernel_rfl) (fun _ _ _ h => h) (Or.inl ⟨by rfl, ?y0Q⟩) hHeld ?r0Q
    case y0Q => (intro w hSw; (try dsimp only at hSw); go_simp; first | done | with_reducible rfl)
    (try simp only [Act.put, List.setIfInBounds_toArray, List.set_cons_zero, List.set_cons_succ])
    refine wpAnyH_take_at (i := 1) (v := ?v1Q) rfl (by kernel_rfl) (by kernel_rfl) (by kernel_rfl) (fun _ _ _ h => h) (Or.inl ⟨by rfl, ?y1Q⟩) hHeld ?r1Q
    case y1Q => (intro w hSw; (try dsimp only at hSw); go_simp; first | done | with_reducible rfl)
    (try simp only [Act.put, List.setIfInBounds_toArray, List.set_cons_zero, List.set_cons_succ])
    refine wpAnyH_take_at (i := 2) (v := ?v2Q) rfl (by kernel_rfl) (by kernel_rfl) (by kernel_rfl) (fun _ _ _ h => h) (Or.inl ⟨by rfl, ?y2Q⟩) hHeld ?r2Q
    case y2Q => (intro w hSw; (try dsimp only at hSw); go_simp; first | done | with_reducible rfl)
    (try simp only [Act.put, List.setIfInBounds_toArray, List.set_cons_zero, List.set_cons_succ])
    refine wpAnyH_take_at (i := 3) (v := ?v3Q) rfl (by kernel_rfl) (by kernel_rfl) (by kernel_rfl) (fun _ _ _ h => h) (Or.inl ⟨by rfl, ?y3Q⟩) hHeld ?r3Q
    case y3Q => (intro w hSw; (try dsimp only at hSw); go_simp; first | done | with_reducible rfl)
    (try simp only [Act.put, List.setIfInBounds_toArray, List.set_cons_zero, List.set_cons_succ])
    refine wpAnyH_take_at (i := 4) (v := ?v4Q) rfl (by kernel_rfl) (by kernel_rfl) (by kernel_rfl) (fun _ _ _ h => h) (Or.inl ⟨by rfl, ?y4Q⟩) hHeld ?r4Q
    case y4Q => (intro w hSw; (try dsimp only at hSw); go_simp; first | done | with_reducible rfl)
    (try simp only [Act.put, List.setIfInBounds_toArray, List.set_cons_zero, List.set_cons_succ])
    refine wpAnyH_take_at (i := 5) (v := ?v5Q) rfl (by kernel_rfl) (by kernel_rfl) (by kernel_rfl) (fun _ _ _ h => h) (Or.inl ⟨by rfl, ?y5Q⟩) hHeld ?r5Q
    case y5Q => (intro w hSw; (try dsimp only at hSw); go_simp; first | done | with_reducible rfl)
    (try simp only [Act.put, List.setIfInBounds_toArray, List.set_cons_zero, List.set_cons_succ])
    refine wpAnyH_take_at (i := 6) (v := ?v6Q) rfl (by kernel_rfl) (by kernel_rfl) (by kernel_rfl) (fun _ _ _ h => h) (Or.inl ⟨by rfl, ?y6Q⟩) hHeld ?r6Q
    case y6Q => (intro w hSw; (try dsimp only at hSw); go_simp; first | done | with_reducible rfl)
    (try simp only [Act.put, List.setIfInBounds_toArray, List.set_cons_zero, List.set_cons_succ])
    refine wpAnyH_take_at (i := 7) (v := ?v7Q) rfl (by kernel_rfl) (by kernel_rfl) (by kernel_rfl) (fun _ _ _ h => h) (Or.inl ⟨by rfl, ?y7Q⟩) hHeld ?r7Q
    case y7Q => (intro w hSw; (try dsimp only at hSw); go_simp; first | done | with_reducible rfl)
    (try simp only [Act.put, List.setIfInBounds_toArray, List.set_cons_zero, List.set_cons_succ])
    refine wpAnyH_take_at (i := 8) (v := ?v8Q) rfl (by kernel_rfl) (by kernel_rfl) (by kernel_rfl) (fun _ _ _ h => h) (Or.inl ⟨by rfl, ?y8Q⟩) hHeld ?r8Q
    case y8Q => (intro w hSw; (try dsimp only at hSw); go_simp; first | done | with_reducible rfl)
    (try simp only [Act.put, List.setIfInBounds_toArray, List.set_cons_zero, List.set_cons_succ])
    refine wpAnyH_take_at (i := 9) (v := ?v9Q) rfl (by kernel_rfl) (by kernel_rfl) (by kernel_rfl) (fun _ _ _ h => h) (Or.inl ⟨by rfl, ?y9Q⟩) hHeld ?r9Q
    case y9Q => (intro w hSw; (try dsimp only at hSw); go_simp; first | done | with_reducible rfl)
    (try simp only [Act.put, List.setIfInBounds_toArray, List.set_cons_zero, List.set_cons_succ])
    refine wpAnyH_take_at (i := 10) (v := ?v10Q) rfl (by kernel_rfl) (by kernel_rfl) (by kernel_rfl) (fun _ _ _ h => h) (Or.inl ⟨by rfl, ?y10Q⟩) hHeld ?r10Q
    case y10Q => (intro w hSw; (try dsimp only at hSw); go_simp; first | done | with_reducible rfl)
    (try simp only [Act.put, List.setIfInBounds_toArray, List.set_cons_zero, List.set_cons_succ])
    refine wpAnyH_take_at (i := 11) (v := ?v11Q) rfl (by kernel_rfl) (by kernel_rfl) (by kernel_rfl) (fun _ _ _ h => h) (Or.inl ⟨by rfl, ?y11Q⟩) hHeld ?r11Q
    case y11Q => (intro w hSw; (try dsimp only at hSw); go_simp; first | done | with_reducible rfl)
    (try simp only [Act.put, List.setIfInBounds_toArray, List.set_cons_zero, List.set_cons_succ])
    refine wpAnyH_take_at (i := 12) (v := ?v12Q) rfl (by kernel_rfl) (by kernel_rfl) (by kernel_rfl) (fun _ _ _ h => h) (Or.inl ⟨by rfl, ?y12Q⟩) hHeld ?r12Q
    case y12Q => (intro w hSw; (try dsimp only at hSw); go_simp; first | done | with_reducible rfl)
    (try simp only [Act.put, List.setIfInBounds_toArray, List.set_cons_zero, List.set_cons_succ])
    refine wpAnyH_take_at (i := 14) (v := ?v14Q) rfl (by kernel_rfl) (by kernel_rfl) (by kernel_rfl) (fun _ _ _ h => h) (Or.inl ⟨by rfl, ?y14Q⟩) hHeld ?r14Q
    case y14Q => (intro w hSw; (try dsimp only at hSw); go_simp; first | done | with_reducible rfl)
    (try simp only [Act.put, List.setIfInBounds_toArray, List.set_cons_zero, List.set_cons_succ])
    refine wpAnyH_ready (rs := [13, 15]) (by kernel_rfl) (by simp) (AllReadyH.cons (get_at rfl) (fun K hK => ?_) (AllReadyH.cons (get_at rfl) (fun K hK => ?_) AllReadyH.nil))
    · go_simp
      refine hK.out _ _ ?s13QX (fun hHeld => ?_)
      case s13QX => exact hHeld
      clear hK K
      (try simp only [Act.put, List.setIfInBounds_toArray, List.set_cons_zero, List.set_cons_succ])
      refine wpAnyH_one (i := 15) (by kernel_rfl) rfl (fun K hK => ?_)
      go_simp
      refine hK.out _ _ ?s15QX (fun hHeld => ?_)
      case s15QX => exact HK2.out _
      clear hK K
      (try simp only [Act.put, List.setIfInBounds_toArray, List.set_cons_zero, List.set_cons_succ])
      refine wpAnyH_one (i := 16) (by kernel_rfl) rfl (fun K hK => ?_)
      refine step_append_tail rfl (.tmp 75) (.tmp 77) 23 rfl 25 i0 _ 6 48 Tryd.underlying23 hi0 hz0 hz1' hz2 rfl (by decide) (.slice ao ((addL L (M.N + vn) ⟨3, head, who, an, b, vn⟩) an).length cap) ((addL L (M.N + vn) ⟨3, head, who, an, b, vn⟩) an).length (rlCells ((addL L (M.N + vn) ⟨3, head, who, an, b, vn⟩) an)) (by simp [Act.eval, Act.put]) (Hown.out _ (((Keeps.refl _ _).drew).alloc _)) ⟨wc.heap.size, 0, none⟩ 1 1 [.int .i64 3, .int .i64 head, .int .i64 who, .int .i64 an, .int .i64 b, .int .i64 vn] (by simp [Act.eval, Act.put]) rfl (cells_new _ _ _) (by intro u hu; simp only [List.mem_cons, List.not_mem_nil, or_false] at hu; rcases hu with rfl | rfl | rfl | rfl | rfl | rfl <;> rfl) (by omega) (by unfold maxLen; omega) (by omega) ?_
      intro ao' cap' w2 hown hgrow hfp
      obtain ⟨e1, e3, e4, e5, HP⟩ := HG.out _ _ _ _ (((Keeps.refl _ _).drew).alloc _) hown hgrow hfp
      clear hown hgrow hfp
      refine hK.out _ _ ?s16QX (fun hHeld => ?_)
      case s16QX => exact e1
      clear hK K
      (try simp only [Act.put, List.setIfInBounds_toArray, List.set_cons_zero, List.set_cons_succ])
      refine wpAnyH_take_at (i := 17) (v := ?v17QX) rfl (by kernel_rfl) (by kernel_rfl) (by kernel_rfl) (fun _ _ _ h => h) (Or.inl ⟨by rfl, ?y17QX⟩) hHeld ?r17QX
      case y17QX => (intro w hSw; (try dsimp only at hSw); go_simp; first | done | with_reducible rfl)
      (try simp only [Act.put, List.setIfInBounds_toArray, List.set_cons_zero, List.set_cons_succ])
      refine wpAnyH_one (i := 18) (by kernel_rfl) rfl (fun K hK => ?_)
      go_simp
      refine hK.out _ _ ?s18QX (fun hHeld => ?_)
      case s18QX => exact e5
      clear hK K
      (try simp only [Act.put, List.setIfInBounds_toArray, List.set_cons_zero, List.set_cons_succ])
      refine wpAnyH_done (by kernel_rfl) ?_ _
      refine NoPanic.normal ?_
      go_wp2_with fail
      go_end0
      exact HP.out
    · go_simp
      refine hK.out _ _ ?s15QZ (fun hHeld => ?_)
      case s15QZ => exact HK2.out _
      clear hK K
      (try simp only [Act.put, List.setIfInBounds_toArray, List.set_cons_zero, List.set_cons_succ])
      refine wpAnyH_one (i := 13) (by kernel_rfl) rfl (fun K hK => ?_)
      go_simp
      refine hK.out _ _ ?s13QZ (fun hHeld => ?_)
      case s13QZ => exact hHeld
      clear hK K
      (try simp only [Act.put, List.setIfInBounds_toArray, List.set_cons_zero, List.set_cons_succ])
      refine wpAnyH_one (i := 16) (by kernel_rfl) rfl (fun K hK => ?_)
      refine step_append_tail rfl (.tmp 75) (.tmp 77) 23 rfl 25 i0 _ 6 48 Tryd.underlying23 hi0 hz0 hz1' hz2 rfl (by decide) (.slice ao ((addL L (M.N + vn) ⟨3, head, who, an, b, vn⟩) an).length cap) ((addL L (M.N + vn) ⟨3, head, who, an, b, vn⟩) an).length (rlCells ((addL L (M.N + vn) ⟨3, head, who, an, b, vn⟩) an)) (by simp [Act.eval, Act.put]) (Hown.out _ (((Keeps.refl _ _).drew).alloc _)) ⟨wc.heap.size, 0, none⟩ 1 1 [.int .i64 3, .int .i64 head, .int .i64 who, .int .i64 an, .int .i64 b, .int .i64 vn] (by simp [Act.eval, Act.put]) rfl (cells_new _ _ _) (by intro u hu; simp only [List.mem_cons, List.not_mem_nil, or_false] at hu; rcases hu with rfl | rfl | rfl | rfl | rfl | rfl <;> rfl) (by omega) (by unfold maxLen; omega) (by omega) ?_
      intro ao' cap' w2 hown hgrow hfp
      obtain ⟨e1, e3, e4, e5, HP⟩ := HG.out _ _ _ _ (((Keeps.refl _ _).drew).alloc _) hown hgrow hfp
      clear hown hgrow hfp
      refine hK.out _ _ ?s16QZ (fun hHeld => ?_)
      case s16QZ => exact e1
      clear hK K
      (try simp only [Act.put, List.setIfInBounds_toArray, List.set_cons_zero, List.set_cons_succ])
      refine wpAnyH_take_at (i := 17) (v := ?v17QZ) rfl (by kernel_rfl) (by kernel_rfl) (by kernel_rfl) (fun _ _ _ h => h) (Or.inl ⟨by rfl, ?y17QZ⟩) hHeld ?r17QZ
      case y17QZ => (intro w hSw; (try dsimp only at hSw); go_simp; first | done | with_reducible rfl)
      (try simp only [Act.put, List.setIfInBounds_toArray, List.set_cons_zero, List.set_cons_succ])
      refine wpAnyH_one (i := 18) (by kernel_rfl) rfl (fun K hK => ?_)
      go_simp
      refine hK.out _ _ ?s18QZ (fun hHeld => ?_)
      case s18QZ => exact e5
      clear hK K
      (try simp only [Act.put, List.setIfInBounds_toArray, List.set_cons_zero, List.set_cons_succ])
      refine wpAnyH_done (by kernel_rfl) ?_ _
      refine NoPanic.normal ?_
      go_wp2_with fail
      go_end0
      exact HP.out
set_option maxRecDepth 100000 in
set_option maxHeartbeats 3200000 in
theorem sput_both (h : SemAt W M vr L s vq) (hs : s.steps ≤ 10000000000000000) (hL : ∀ i, (L i).length ≤ 1000000) (head who via : Int) (an bn : Nat) (ha : an < M.N) (hb : bn < M.N) (hne : bn ≠ an) :
    Calls Tryd.prog 22 #[.pointer (some ⟨M.mb, 0, none⟩), .agg #[.int .i64 4, .int .i64 head, .int .i64 who, .int .i64 an, .int .i64 bn, .int .i64 via]] W (PutPost M vr (addL (addL L bn ⟨4, head, who, an, bn, via⟩) an ⟨4, head, who, an, bn, via⟩) vq s.tick W) := by
  have hP64 := h.hP
  have hK64 := h.hK
  have hNle : M.N ≤ 64 * 64 := Nat.mul_le_mul hP64 hK64
  have hbx := PutAt.box h ⟨4, head, who, an, bn, via⟩
  obtain ⟨n0, n1, n2, n3⟩ := hbx.at_.mcells
  obtain ⟨o0, o1, o2, o3⟩ := hbx.at_.ocells
  have fo := hbx.at_.free.2 3
  obtain ⟨r0, r1, r2, r3, r4, r5⟩ := hbx.rule
  have htk := hbx.tick
  rw [show ((s.steps + 1 : Nat) : Int) = (s.steps : Int) + 1 from by omega] at htk
  have hwt : IntKind.i64.wrap ((s.steps : Int) + 1) = (s.steps : Int) + 1 := IntWalk.i64_in _ (by omega)
  unfold ruleObj at *
  simp only [] at n0 n1 n2 n3 o0 o1 o2 o3 fo r0 r1 r2 r3 r4 r5 htk
  clear hbx
  obtain ⟨i0, hi0, hz0, hz1', hz2⟩ := info_parts rlInfo
  have haI : (an : Int) < (M.N : Int) := by omega
  have hbI : (bn : Int) < (M.N : Int) := by omega
  have hneI : ¬ (bn : Int) = (an : Int) := by omega
  go_enter Tryd.func22, Tryd.ntmps22
  go_upto_region 2 with fail
  generalize (W.alloc (.cells #[.int .i64 4, .int .i64 head, .int .i64 who, .int .i64 an, .int .i64 bn, .int .i64 via] 25)).setCell ⟨M.mo, 3, none⟩ (.int .i64 ((s.steps : Int) + 1)) = wq at htk ⊢
  clear n0 n1 n2 n3 o0 o1 o2 o3 fo r0 r1 r2 r3 r4 r5 h
  obtain ⟨p1, p2, p3, p4, p5, p6, p7, p8⟩ := htk.rd.cells
  simp only [] at p3 p4 p5 p6 p7 p8
  go_upto_region 11 with fail
  clear p1 p2 p3 p4 p5 p6 p7 p8
  have HL := Lib.hid hL
  go_cut [] (fun wx => ∃ vr', Hid (PutAt W M vr vr' (addL L bn ⟨4, head, who, an, bn, via⟩) vq W.heap.size ⟨4, head, who, an, bn, via⟩ s.tick vq wx))
  case first =>
    have HQ := Lib.hid htk
    obtain ⟨ao, cap, hv, hle, hmx⟩ := htk.at_.rowV (i := bn) (by omega)
    have hlen : (L bn).length ≤ 1000001 := Nat.le_succ_of_le (hL _)
    have hS0 : (fun w' => w'.cell? ⟨M.mb, 1, none⟩ = some (.slice (some ⟨M.bb, 0, none⟩) M.N M.N) ∧ w'.cell? ⟨M.mb, 2, none⟩ = some (.slice (some ⟨M.vb, 0, none⟩) M.K M.K) ∧ w'.cell? ⟨W.heap.size, 0, none⟩ = some (.int .i64 4) ∧ w'.cell? ⟨W.heap.size, 1, none⟩ = some (.int .i64 head) ∧ w'.cell? ⟨W.heap.size, 2, none⟩ = some (.int .i64 who) ∧ w'.cell? ⟨W.heap.size, 3, none⟩ = some (.int .i64 an) ∧ w'.cell? ⟨W.heap.size, 4, none⟩ = some (.int .i64 bn) ∧ w'.cell? ⟨W.heap.size, 5, none⟩ = some (.int .i64 via)) wq.drew := (htk.quiet ((Keeps.refl _ _).drew)).rd.cells
    have HK2 : Hid (∀ o, (fun w' => w'.cell? ⟨M.mb, 1, none⟩ = some (.slice (some ⟨M.bb, 0, none⟩) M.N M.N) ∧ w'.cell? ⟨M.mb, 2, none⟩ = some (.slice (some ⟨M.vb, 0, none⟩) M.K M.K) ∧ w'.cell? ⟨W.heap.size, 0, none⟩ = some (.int .i64 4) ∧ w'.cell? ⟨W.heap.size, 1, none⟩ = some (.int .i64 head) ∧ w'.cell? ⟨W.heap.size, 2, none⟩ = some (.int .i64 who) ∧ w'.cell? ⟨W.heap.size, 3, none⟩ = some (.int .i64 an) ∧ w'.cell? ⟨W.heap.size, 4, none⟩ = some (.int .i64 bn) ∧ w'.cell? ⟨W.heap.size, 5, none⟩ = some (.int .i64 via)) (wq.drew.alloc o)) := fun o => (HQ.out.quiet (((Keeps.refl _ _).drew).alloc o)).rd.cells
    have pba : wq.cell? ⟨M.bb, bn, none⟩ = some (.slice ao (L bn).length cap) := by rw [← hv]; exact htk.rd.bc bn hb
    have pfa : wq.frozen? ⟨M.bb, bn, none⟩ = false := htk.rd.bf bn
    have lb : M.bb < wq.heap.size := lt_of_cell pba
    have Hown : Hid (∀ W', Keeps (fun _ => False) wq W' → TailRow W' 25 6 (.slice ao (L bn).length cap) (L bn).length (rlCells (L bn))) := fun W' hk => by
      have := (HQ.out.at_.keeps hk).rows (bn) (by omega)
      rw [hv] at this
      exact this
    have HG : Hid (∀ W1 W2 ao' cap', Keeps (fun _ => False) wq W1 → TailRow W2 25 6 (.slice ao' ((L bn).length + 1) cap') ((L bn).length + 1) (rlCells (L bn) ++ [.int .i64 4, .int .i64 head, .int .i64 who, .int .i64 an, .int .i64 bn, .int .i64 via]) → W1.grownBy W2 (Value.slice ao (L bn).length cap).ownBlock → (∀ k, (Value.slice ao' ((L bn).length + 1) cap').ownBlock = some k → (Value.slice ao (L bn).length cap).ownBlock = some k ∨ W1.heap.size ≤ k) →
        (fun w' => w'.cell? ⟨M.mb, 1, none⟩ = some (.slice (some ⟨M.bb, 0, none⟩) M.N M.N) ∧ w'.cell? ⟨M.mb, 2, none⟩ = some (.slice (some ⟨M.vb, 0, none⟩) M.K M.K) ∧ w'.cell? ⟨W.heap.size, 0, none⟩ = some (.int .i64 4) ∧ w'.cell? ⟨W.heap.size, 1, none⟩ = some (.int .i64 head) ∧ w'.cell? ⟨W.heap.size, 2, none⟩ = some (.int .i64 who) ∧ w'.cell? ⟨W.heap.size, 3, none⟩ = some (.int .i64 an) ∧ w'.cell? ⟨W.heap.size, 4, none⟩ = some (.int .i64 bn) ∧ w'.cell? ⟨W.heap.size, 5, none⟩ = some (.int .i64 via)) W2 ∧ W2.cell? ⟨M.bb, bn, none⟩ = some (.slice ao (L bn).length cap) ∧ W2.frozen? ⟨M.bb, bn, none⟩ = false ∧ (fun w' => w'.cell? ⟨M.mb, 1, none⟩ = some (.slice (some ⟨M.bb, 0, none⟩) M.N M.N) ∧ w'.cell? ⟨M.mb, 2, none⟩ = some (.slice (some ⟨M.vb, 0, none⟩) M.K M.K) ∧ w'.cell? ⟨W.heap.size, 0, none⟩ = some (.int .i64 4) ∧ w'.cell? ⟨W.heap.size, 1, none⟩ = some (.int .i64 head) ∧ w'.cell? ⟨W.heap.size, 2, none⟩ = some (.int .i64 who) ∧ w'.cell? ⟨W.heap.size, 3, none⟩ = some (.int .i64 an) ∧ w'.cell? ⟨W.heap.size, 4, none⟩ = some (.int .i64 bn) ∧ w'.cell? ⟨W.heap.size, 5, none⟩ = some (.int .i64 via)) (W2.setCell ⟨M.bb, bn, none⟩ (.slice ao' ((L bn).length + 1) cap')) ∧ (∃ vr', Hid (PutAt W M vr vr' (addL L bn ⟨4, head, who, an, bn, via⟩) vq W.heap.size ⟨4, head, who, an, bn, via⟩ s.tick vq (W2.setCell ⟨M.bb, bn, none⟩ (.slice ao' ((L bn).length + 1) cap'))))) := fun W1 W2 ao' cap' k1 ho hgr hfp => by
      rw [← hv] at hgr hfp
      obtain ⟨a1, a2⟩ := HQ.out.grow (g := bn) (by omega) k1 ho hgr hfp
      have a3 := a2 ⟨M.bb, bn, none⟩ (.inl ⟨hb, rfl⟩)
      exact ⟨a1.cells, by rw [← hv]; exact a1.bc bn hb, a1.bf bn, a3.out.rd.cells, ⟨_, a3⟩⟩
    clear htk hv
    refine wp_region_noPanic ?_
    refine wp_region_held_drew (S := fun w' => w'.cell? ⟨M.mb, 1, none⟩ = some (.slice (some ⟨M.bb, 0, none⟩) M.N M.N) ∧ w'.cell? ⟨M.mb, 2, none⟩ = some (.slice (some ⟨M.vb, 0, none⟩) M.K M.K) ∧ w'.cell? ⟨W.heap.size, 0, none⟩ = some (.int .i64 4) ∧ w'.cell? ⟨W.heap.size, 1, none⟩ = some (.int .i64 head) ∧ w'.cell? ⟨W.heap.size, 2, none⟩ = some (.int .i64 who) ∧ w'.cell? ⟨W.heap.size, 3, none⟩ = some (.int .i64 an) ∧ w'.cell? ⟨W.heap.size, 4, none⟩ = some (.int .i64 bn) ∧ w'.cell? ⟨W.heap.size, 5, none⟩ = some (.int .i64 via)) (by kernel_rfl) hS0 (fun hHeld => ?_)
    refine wpAnyH_take_at (i := 0) (v := ?v0P) rfl (by kernel_rfl) (by kernel_rfl) (by kernel_rfl) (fun _ _ _ h => h) (Or.inl ⟨by rfl, ?y0P⟩) hHeld ?r0P
    case y0P => (intro w hSw; (try dsimp only at hSw); go_simp; first | done | with_reducible rfl)
    (try simp only [Act.put, List.setIfInBounds_toArray, List.set_cons_zero, List.set_cons_succ])
    refine wpAnyH_take_at (i := 1) (v := ?v1P) rfl (by kernel_rfl) (by kernel_rfl) (by kernel_rfl) (fun _ _ _ h => h) (Or.inl ⟨by rfl, ?y1P⟩) hHeld ?r1P
    case y1P => (intro w hSw; (try dsimp only at hSw); go_simp; first | done | with_reducible rfl)
    (try simp only [Act.put, List.setIfInBounds_toArray, List.set_cons_zero, List.set_cons_succ])
    refine wpAnyH_take_at (i := 2) (v := ?v2P) rfl (by kernel_rfl) (by kernel_rfl) (by kernel_rfl) (fun _ _ _ h => h) (Or.inl ⟨by rfl, ?y2P⟩) hHeld ?r2P
    case y2P => (intro w hSw; (try dsimp only at hSw); go_simp; first | done | with_reducible rfl)
    (try simp only [Act.put, List.setIfInBounds_toArray, List.set_cons_zero, List.set_cons_succ])
    refine wpAnyH_take_at (i := 3) (v := ?v3P) rfl (by kernel_rfl) (by kernel_rfl) (by kernel_rfl) (fun _ _ _ h => h) (Or.inl ⟨by rfl, ?y3P⟩) hHeld ?r3P
    case y3P => (intro w hSw; (try dsimp only at hSw); go_simp; first | done | with_reducible rfl)
    (try simp only [Act.put, List.setIfInBounds_toArray, List.set_cons_zero, List.set_cons_succ])
    refine wpAnyH_take_at (i := 4) (v := ?v4P) rfl (by kernel_rfl) (by kernel_rfl) (by kernel_rfl) (fun _ _ _ h => h) (Or.inl ⟨by rfl, ?y4P⟩) hHeld ?r4P
    case y4P => (intro w hSw; (try dsimp only at hSw); go_simp; first | done | with_reducible rfl)
    (try simp only [Act.put, List.setIfInBounds_toArray, List.set_cons_zero, List.set_cons_succ])
    refine wpAnyH_take_at (i := 5) (v := ?v5P) rfl (by kernel_rfl) (by kernel_rfl) (by kernel_rfl) (fun _ _ _ h => h) (Or.inl ⟨by rfl, ?y5P⟩) hHeld ?r5P
    case y5P => (intro w hSw; (try dsimp only at hSw); go_simp; first | done | with_reducible rfl)
    (try simp only [Act.put, List.setIfInBounds_toArray, List.set_cons_zero, List.set_cons_succ])
    refine wpAnyH_take_at (i := 6) (v := ?v6P) rfl (by kernel_rfl) (by kernel_rfl) (by kernel_rfl) (fun _ _ _ h => h) (Or.inl ⟨by rfl, ?y6P⟩) hHeld ?r6P
    case y6P => (intro w hSw; (try dsimp only at hSw); go_simp; first | done | with_reducible rfl)
    (try simp only [Act.put, List.setIfInBounds_toArray, List.set_cons_zero, List.set_cons_succ])
    refine wpAnyH_take_at (i := 7) (v := ?v7P) rfl (by kernel_rfl) (by kernel_rfl) (by kernel_rfl) (fun _ _ _ h => h) (Or.inl ⟨by rfl, ?y7P⟩) hHeld ?r7P
    case y7P => (intro w hSw; (try dsimp only at hSw); go_simp; first | done | with_reducible rfl)
    (try simp only [Act.put, List.setIfInBounds_toArray, List.set_cons_zero, List.set_cons_succ])
    refine wpAnyH_take_at (i := 8) (v := ?v8P) rfl (by kernel_rfl) (by kernel_rfl) (by kernel_rfl) (fun _ _ _ h => h) (Or.inl ⟨by rfl, ?y8P⟩) hHeld ?r8P
    case y8P => (intro w hSw; (try dsimp only at hSw); go_simp; first | done | with_reducible rfl)
    (try simp only [Act.put, List.setIfInBounds_toArray, List.set_cons_zero, List.set_cons_succ])
    refine wpAnyH_take_at (i := 9) (v := ?v9P) rfl (by kernel_rfl) (by kernel_rfl) (by kernel_rfl) (fun _ _ _ h => h) (Or.inl ⟨by rfl, ?y9P⟩) hHeld ?r9P
    case y9P => (intro w hSw; (try dsimp only at hSw); go_simp; first | done | with_reducible rfl)
    (try simp only [Act.put, List.setIfInBounds_toArray, List.set_cons_zero, List.set_cons_succ])
    refine wpAnyH_take_at (i := 10) (v := ?v10P) rfl (by kernel_rfl) (by kernel_rfl) (by kernel_rfl) (fun _ _ _ h => h) (Or.inl ⟨by rfl, ?y10P⟩) hHeld ?r10P
    case y10P => (intro w hSw; (try dsimp only at hSw); go_simp; first | done | with_reducible rfl)
    (try simp only [Act.put, List.setIfInBounds_toArray, List.set_cons_zero, List.set_cons_succ])
    refine wpAnyH_take_at (i := 11) (v := ?v11P) rfl (by kernel_rfl) (by kernel_rfl) (by kernel_rfl) (fun _ _ _ h => h) (Or.inl ⟨by rfl, ?y11P⟩) hHeld ?r11P
    case y11P => (intro w hSw; (try dsimp only at hSw); go_simp; first | done | with_reducible rfl)
    (try simp only [Act.put, List.setIfInBounds_toArray, List.set_cons_zero, List.set_cons_succ])
    refine wpAnyH_take_at (i := 12) (v := ?v12P) rfl (by kernel_rfl) (by kernel_rfl) (by kernel_rfl) (fun _ _ _ h => h) (Or.inl ⟨by rfl, ?y12P⟩) hHeld ?r12P
    case y12P => (intro w hSw; (try dsimp only at hSw); go_simp; first | done | with_reducible rfl)
    (try simp only [Act.put, List.setIfInBounds_toArray, List.set_cons_zero, List.set_cons_succ])
    refine wpAnyH_take_at (i := 14) (v := ?v14P) rfl (by kernel_rfl) (by kernel_rfl) (by kernel_rfl) (fun _ _ _ h => h) (Or.inl ⟨by rfl, ?y14P⟩) hHeld ?r14P
    case y14P => (intro w hSw; (try dsimp only at hSw); go_simp; first | done | with_reducible rfl)
    (try simp only [Act.put, List.setIfInBounds_toArray, List.set_cons_zero, List.set_cons_succ])
    refine wpAnyH_ready (rs := [13, 15]) (by kernel_rfl) (by simp) (AllReadyH.cons (get_at rfl) (fun K hK => ?_) (AllReadyH.cons (get_at rfl) (fun K hK => ?_) AllReadyH.nil))
    · go_simp
      refine hK.out _ _ ?s13PX (fun hHeld => ?_)
      case s13PX => exact hHeld
      clear hK K
      (try simp only [Act.put, List.setIfInBounds_toArray, List.set_cons_zero, List.set_cons_succ])
      refine wpAnyH_one (i := 15) (by kernel_rfl) rfl (fun K hK => ?_)
      go_simp
      refine hK.out _ _ ?s15PX (fun hHeld => ?_)
      case s15PX => exact HK2.out _
      clear hK K
      (try simp only [Act.put, List.setIfInBounds_toArray, List.set_cons_zero, List.set_cons_succ])
      refine wpAnyH_one (i := 16) (by kernel_rfl) rfl (fun K hK => ?_)
      refine step_append_tail rfl (.tmp 100) (.tmp 102) 23 rfl 25 i0 _ 6 48 Tryd.underlying23 hi0 hz0 hz1' hz2 rfl (by decide) (.slice ao (L bn).length cap) (L bn).length (rlCells (L bn)) (by simp [Act.eval, Act.put]) (Hown.out _ (((Keeps.refl _ _).drew).alloc _)) ⟨wq.heap.size, 0, none⟩ 1 1 [.int .i64 4, .int .i64 head, .int .i64 who, .int .i64 an, .int .i64 bn, .int .i64 via] (by simp [Act.eval, Act.put]) rfl (cells_new _ _ _) (by intro u hu; simp only [List.mem_cons, List.not_mem_nil, or_false] at hu; rcases hu with rfl | rfl | rfl | rfl | rfl | rfl <;> rfl) (by omega) (by unfold maxLen; omega) (by omega) ?_
      intro ao' cap' w2 hown hgrow hfp
      obtain ⟨e1, e3, e4, e5, HP⟩ := HG.out _ _ _ _ (((Keeps.refl _ _).drew).alloc _) hown hgrow hfp
      clear hown hgrow hfp
      refine hK.out _ _ ?s16PX (fun hHeld => ?_)
      case s16PX => exact e1
      clear hK K
      (try simp only [Act.put, List.setIfInBounds_toArray, List.set_cons_zero, List.set_cons_succ])
      refine wpAnyH_take_at (i := 17) (v := ?v17PX) rfl (by kernel_rfl) (by kernel_rfl) (by kernel_rfl) (fun _ _ _ h => h) (Or.inl ⟨by rfl, ?y17PX⟩) hHeld ?r17PX
      case y17PX => (intro w hSw; (try dsimp only at hSw); go_simp; first | done | with_reducible rfl)
      (try simp only [Act.put, List.setIfInBounds_toArray, List.set_cons_zero, List.set_cons_succ])
      refine wpAnyH_one (i := 18) (by kernel_rfl) rfl (fun K hK => ?_)
      go_simp
      refine hK.out _ _ ?s18PX (fun hHeld => ?_)
      case s18PX => exact e5
      clear hK K
      (try simp only [Act.put, List.setIfInBounds_toArray, List.set_cons_zero, List.set_cons_succ])
      refine wpAnyH_done (by kernel_rfl) ?_ _
      refine NoPanic.normal ?_
      go_wp2_with fail
      go_meet
      exact HP
    · go_simp
      refine hK.out _ _ ?s15PZ (fun hHeld => ?_)
      case s15PZ => exact HK2.out _
      clear hK K
      (try simp only [Act.put, List.setIfInBounds_toArray, List.set_cons_zero, List.set_cons_succ])
      refine wpAnyH_one (i := 13) (by kernel_rfl) rfl (fun K hK => ?_)
      go_simp
      refine hK.out _ _ ?s13PZ (fun hHeld => ?_)
      case s13PZ => exact hHeld
      clear hK K
      (try simp only [Act.put, List.setIfInBounds_toArray, List.set_cons_zero, List.set_cons_succ])
      refine wpAnyH_one (i := 16) (by kernel_rfl) rfl (fun K hK => ?_)
      refine step_append_tail rfl (.tmp 100) (.tmp 102) 23 rfl 25 i0 _ 6 48 Tryd.underlying23 hi0 hz0 hz1' hz2 rfl (by decide) (.slice ao (L bn).length cap) (L bn).length (rlCells (L bn)) (by simp [Act.eval, Act.put]) (Hown.out _ (((Keeps.refl _ _).drew).alloc _)) ⟨wq.heap.size, 0, none⟩ 1 1 [.int .i64 4, .int .i64 head, .int .i64 who, .int .i64 an, .int .i64 bn, .int .i64 via] (by simp [Act.eval, Act.put]) rfl (cells_new _ _ _) (by intro u hu; simp only [List.mem_cons, List.not_mem_nil, or_false] at hu; rcases hu with rfl | rfl | rfl | rfl | rfl | rfl <;> rfl) (by omega) (by unfold maxLen; omega) (by omega) ?_
      intro ao' cap' w2 hown hgrow hfp
      obtain ⟨e1, e3, e4, e5, HP⟩ := HG.out _ _ _ _ (((Keeps.refl _ _).drew).alloc _) hown hgrow hfp
      clear hown hgrow hfp
      refine hK.out _ _ ?s16PZ (fun hHeld => ?_)
      case s16PZ => exact e1
      clear hK K
      (try simp only [Act.put, List.setIfInBounds_toArray, List.set_cons_zero, List.set_cons_succ])
      refine wpAnyH_take_at (i := 17) (v := ?v17PZ) rfl (by kernel_rfl) (by kernel_rfl) (by kernel_rfl) (fun _ _ _ h => h) (Or.inl ⟨by rfl, ?y17PZ⟩) hHeld ?r17PZ
      case y17PZ => (intro w hSw; (try dsimp only at hSw); go_simp; first | done | with_reducible rfl)
      (try simp only [Act.put, List.setIfInBounds_toArray, List.set_cons_zero, List.set_cons_succ])
      refine wpAnyH_one (i := 18) (by kernel_rfl) rfl (fun K hK => ?_)
      go_simp
      refine hK.out _ _ ?s18PZ (fun hHeld => ?_)
      case s18PZ => exact e5
      clear hK K
      (try simp only [Act.put, List.setIfInBounds_toArray, List.set_cons_zero, List.set_cons_succ])
      refine wpAnyH_done (by kernel_rfl) ?_ _
      refine NoPanic.normal ?_
      go_wp2_with fail
      go_meet
      exact HP
  case rest =>
    obtain ⟨vr1, hq1⟩ := hcut
    have htk := hq1.out
    clear hq1
    have p1 : True := trivial
    clear p1
    have HQ := Lib.hid htk
    obtain ⟨ao, cap, hv, hle, hmx⟩ := htk.at_.rowV (i := an) (by omega)
    have hlen : ((addL L bn ⟨4, head, who, an, bn, via⟩) an).length ≤ 1000001 := by have := HL.out an; unfold addL; split <;> (try rw [List.length_append]; show _ + 1 ≤ _) <;> omega
    have hS0 : (fun w' => w'.cell? ⟨M.mb, 1, none⟩ = some (.slice (some ⟨M.bb, 0, none⟩) M.N M.N) ∧ w'.cell? ⟨M.mb, 2, none⟩ = some (.slice (some ⟨M.vb, 0, none⟩) M.K M.K) ∧ w'.cell? ⟨W.heap.size, 0, none⟩ = some (.int .i64 4) ∧ w'.cell? ⟨W.heap.size, 1, none⟩ = some (.int .i64 head) ∧ w'.cell? ⟨W.heap.size, 2, none⟩ = some (.int .i64 who) ∧ w'.cell? ⟨W.heap.size, 3, none⟩ = some (.int .i64 an) ∧ w'.cell? ⟨W.heap.size, 4, none⟩ = some (.int .i64 bn) ∧ w'.cell? ⟨W.heap.size, 5, none⟩ = some (.int .i64 via)) wc.drew := (htk.quiet ((Keeps.refl _ _).drew)).rd.cells
    have HK2 : Hid (∀ o, (fun w' => w'.cell? ⟨M.mb, 1, none⟩ = some (.slice (some ⟨M.bb, 0, none⟩) M.N M.N) ∧ w'.cell? ⟨M.mb, 2, none⟩ = some (.slice (some ⟨M.vb, 0, none⟩) M.K M.K) ∧ w'.cell? ⟨W.heap.size, 0, none⟩ = some (.int .i64 4) ∧ w'.cell? ⟨W.heap.size, 1, none⟩ = some (.int .i64 head) ∧ w'.cell? ⟨W.heap.size, 2, none⟩ = some (.int .i64 who) ∧ w'.cell? ⟨W.heap.size, 3, none⟩ = some (.int .i64 an) ∧ w'.cell? ⟨W.heap.size, 4, none⟩ = some (.int .i64 bn) ∧ w'.cell? ⟨W.heap.size, 5, none⟩ = some (.int .i64 via)) (wc.drew.alloc o)) := fun o => (HQ.out.quiet (((Keeps.refl _ _).drew).alloc o)).rd.cells
    have pba : wc.cell? ⟨M.bb, an, none⟩ = some (.slice ao ((addL L bn ⟨4, head, who, an, bn, via⟩) an).length cap) := by rw [← hv]; exact htk.rd.bc an ha
    have pfa : wc.frozen? ⟨M.bb, an, none⟩ = false := htk.rd.bf an
    have lb : M.bb < wc.heap.size := lt_of_cell pba
    have Hown : Hid (∀ W', Keeps (fun _ => False) wc W' → TailRow W' 25 6 (.slice ao ((addL L bn ⟨4, head, who, an, bn, via⟩) an).length cap) ((addL L bn ⟨4, head, who, an, bn, via⟩) an).length (rlCells ((addL L bn ⟨4, head, who, an, bn, via⟩) an))) := fun W' hk => by
      have := (HQ.out.at_.keeps hk).rows (an) (by omega)
      rw [hv] at this
      exact this
    have HG : Hid (∀ W1 W2 ao' cap', Keeps (fun _ => False) wc W1 → TailRow W2 25 6 (.slice ao' (((addL L bn ⟨4, head, who, an, bn, via⟩) an).length + 1) cap') (((addL L bn ⟨4, head, who, an, bn, via⟩) an).length + 1) (rlCells ((addL L bn ⟨4, head, who, an, bn, via⟩) an) ++ [.int .i64 4, .int .i64 head, .int .i64 who, .int .i64 an, .int .i64 bn, .int .i64 via]) → W1.grownBy W2 (Value.slice ao ((addL L bn ⟨4, head, who, an, bn, via⟩) an).length cap).ownBlock → (∀ k, (Value.slice ao' (((addL L bn ⟨4, head, who, an, bn, via⟩) an).length + 1) cap').ownBlock = some k → (Value.slice ao ((addL L bn ⟨4, head, who, an, bn, via⟩) an).length cap).ownBlock = some k ∨ W1.heap.size ≤ k) →
        (fun w' => w'.cell? ⟨M.mb, 1, none⟩ = some (.slice (some ⟨M.bb, 0, none⟩) M.N M.N) ∧ w'.cell? ⟨M.mb, 2, none⟩ = some (.slice (some ⟨M.vb, 0, none⟩) M.K M.K) ∧ w'.cell? ⟨W.heap.size, 0, none⟩ = some (.int .i64 4) ∧ w'.cell? ⟨W.heap.size, 1, none⟩ = some (.int .i64 head) ∧ w'.cell? ⟨W.heap.size, 2, none⟩ = some (.int .i64 who) ∧ w'.cell? ⟨W.heap.size, 3, none⟩ = some (.int .i64 an) ∧ w'.cell? ⟨W.heap.size, 4, none⟩ = some (.int .i64 bn) ∧ w'.cell? ⟨W.heap.size, 5, none⟩ = some (.int .i64 via)) W2 ∧ W2.cell? ⟨M.bb, an, none⟩ = some (.slice ao ((addL L bn ⟨4, head, who, an, bn, via⟩) an).length cap) ∧ W2.frozen? ⟨M.bb, an, none⟩ = false ∧ (fun w' => w'.cell? ⟨M.mb, 1, none⟩ = some (.slice (some ⟨M.bb, 0, none⟩) M.N M.N) ∧ w'.cell? ⟨M.mb, 2, none⟩ = some (.slice (some ⟨M.vb, 0, none⟩) M.K M.K) ∧ w'.cell? ⟨W.heap.size, 0, none⟩ = some (.int .i64 4) ∧ w'.cell? ⟨W.heap.size, 1, none⟩ = some (.int .i64 head) ∧ w'.cell? ⟨W.heap.size, 2, none⟩ = some (.int .i64 who) ∧ w'.cell? ⟨W.heap.size, 3, none⟩ = some (.int .i64 an) ∧ w'.cell? ⟨W.heap.size, 4, none⟩ = some (.int .i64 bn) ∧ w'.cell? ⟨W.heap.size, 5, none⟩ = some (.int .i64 via)) (W2.setCell ⟨M.bb, an, none⟩ (.slice ao' (((addL L bn ⟨4, head, who, an, bn, via⟩) an).length + 1) cap')) ∧ Hid (PutPost M vr (addL (addL L bn ⟨4, head, who, an, bn, via⟩) an ⟨4, head, who, an, bn, via⟩) vq s.tick W (.returned (.tuple #[])) (W2.setCell ⟨M.bb, an, none⟩ (.slice ao' (((addL L bn ⟨4, head, who, an, bn, via⟩) an).length + 1) cap')))) := fun W1 W2 ao' cap' k1 ho hgr hfp => by
      rw [← hv] at hgr hfp
      obtain ⟨a1, a2⟩ := HQ.out.grow (g := an) (by omega) k1 ho hgr hfp
      have a3 := a2 ⟨M.bb, an, none⟩ (.inl ⟨ha, rfl⟩)
      exact ⟨a1.cells, by rw [← hv]; exact a1.bc an ha, a1.bf an, a3.out.rd.cells, a3.out.post rfl⟩
    clear htk hv
    go_upto_region 12 with fail
    refine wp_region_noPanic ?_
    refine wp_region_held_drew (S := fun w' => w'.cell? ⟨M.mb, 1, none⟩ = some (.slice (some ⟨M.bb, 0, none⟩) M.N M.N) ∧ w'.cell? ⟨M.mb, 2, none⟩ = some (.slice (some ⟨M.vb, 0, none⟩) M.K M.K) ∧ w'.cell? ⟨W.heap.size, 0, none⟩ = some (.int .i64 4) ∧ w'.cell? ⟨W.heap.size, 1, none⟩ = some (.int .i64 head) ∧ w'.cell? ⟨W.heap.size, 2, none⟩ = some (.int .i64 who) ∧ w'.cell? ⟨W.heap.size, 3, none⟩ = some (.int .i64 an) ∧ w'.cell? ⟨W.heap.size, 4, none⟩ = some (.int .i64 bn) ∧ w'.cell? ⟨W.heap.size, 5, none⟩ = some (.int .i64 via)) (by kernel_rfl) hS0 (fun hHeld => ?_)
    refine wpAnyH_take_at (i := 0) (v := ?v0Q) rfl (by kernel_rfl) (by kernel_rfl) (by kernel_rfl) (fun _ _ _ h => h) (Or.inl ⟨by rfl, ?y0Q⟩) hHeld ?r0Q
    case y0Q => (intro w hSw; (try dsimp only at hSw); go_simp; first | done | with_reducible rfl)
    (try simp only [Act.put, List.setIfInBounds_toArray, List.set_cons_zero, List.set_cons_succ])
    refine wpAnyH_take_at (i := 1) (v := ?v1Q) rfl (by kernel_rfl) (by kernel_rfl) (by kernel_rfl) (fun _ _ _ h => h) (Or.inl ⟨by rfl, ?y1Q⟩) hHeld ?r1Q
    case y1Q => (intro w hSw; (try dsimp only at hSw); go_simp; first | done | with_reducible rfl)
    (try simp only [Act.put, List.setIfInBounds_toArray, List.set_cons_zero, List.set_cons_succ])
    refine wpAnyH_take_at (i := 2) (v := ?v2Q) rfl (by kernel_rfl) (by kernel_rfl) (by kernel_rfl) (fun _ _ _ h => h) (Or.inl ⟨by rfl, ?y2Q⟩) hHeld ?r2Q
    case y2Q => (intro w hSw; (try dsimp only at hSw); go_simp; first | done | with_reducible rfl)
    (try simp only [Act.put, List.setIfInBounds_toArray, List.set_cons_zero, List.set_cons_succ])
    refine wpAnyH_take_at (i := 3) (v := ?v3Q) rfl (by kernel_rfl) (by kernel_rfl) (by kernel_rfl) (fun _ _ _ h => h) (Or.inl ⟨by rfl, ?y3Q⟩) hHeld ?r3Q
    case y3Q => (intro w hSw; (try dsimp only at hSw); go_simp; first | done | with_reducible rfl)
    (try simp only [Act.put, List.setIfInBounds_toArray, List.set_cons_zero, List.set_cons_succ])
    refine wpAnyH_take_at (i := 4) (v := ?v4Q) rfl (by kernel_rfl) (by kernel_rfl) (by kernel_rfl) (fun _ _ _ h => h) (Or.inl ⟨by rfl, ?y4Q⟩) hHeld ?r4Q
    case y4Q => (intro w hSw; (try dsimp only at hSw); go_simp; first | done | with_reducible rfl)
    (try simp only [Act.put, List.setIfInBounds_toArray, List.set_cons_zero, List.set_cons_succ])
    refine wpAnyH_take_at (i := 5) (v := ?v5Q) rfl (by kernel_rfl) (by kernel_rfl) (by kernel_rfl) (fun _ _ _ h => h) (Or.inl ⟨by rfl, ?y5Q⟩) hHeld ?r5Q
    case y5Q => (intro w hSw; (try dsimp only at hSw); go_simp; first | done | with_reducible rfl)
    (try simp only [Act.put, List.setIfInBounds_toArray, List.set_cons_zero, List.set_cons_succ])
    refine wpAnyH_take_at (i := 6) (v := ?v6Q) rfl (by kernel_rfl) (by kernel_rfl) (by kernel_rfl) (fun _ _ _ h => h) (Or.inl ⟨by rfl, ?y6Q⟩) hHeld ?r6Q
    case y6Q => (intro w hSw; (try dsimp only at hSw); go_simp; first | done | with_reducible rfl)
    (try simp only [Act.put, List.setIfInBounds_toArray, List.set_cons_zero, List.set_cons_succ])
    refine wpAnyH_take_at (i := 7) (v := ?v7Q) rfl (by kernel_rfl) (by kernel_rfl) (by kernel_rfl) (fun _ _ _ h => h) (Or.inl ⟨by rfl, ?y7Q⟩) hHeld ?r7Q
    case y7Q => (intro w hSw; (try dsimp only at hSw); go_simp; first | done | with_reducible rfl)
    (try simp only [Act.put, List.setIfInBounds_toArray, List.set_cons_zero, List.set_cons_succ])
    refine wpAnyH_take_at (i := 8) (v := ?v8Q) rfl (by kernel_rfl) (by kernel_rfl) (by kernel_rfl) (fun _ _ _ h => h) (Or.inl ⟨by rfl, ?y8Q⟩) hHeld ?r8Q
    case y8Q => (intro w hSw; (try dsimp only at hSw); go_simp; first | done | with_reducible rfl)
    (try simp only [Act.put, List.setIfInBounds_toArray, List.set_cons_zero, List.set_cons_succ])
    refine wpAnyH_take_at (i := 9) (v := ?v9Q) rfl (by kernel_rfl) (by kernel_rfl) (by kernel_rfl) (fun _ _ _ h => h) (Or.inl ⟨by rfl, ?y9Q⟩) hHeld ?r9Q
    case y9Q => (intro w hSw; (try dsimp only at hSw); go_simp; first | done | with_reducible rfl)
    (try simp only [Act.put, List.setIfInBounds_toArray, List.set_cons_zero, List.set_cons_succ])
    refine wpAnyH_take_at (i := 10) (v := ?v10Q) rfl (by kernel_rfl) (by kernel_rfl) (by kernel_rfl) (fun _ _ _ h => h) (Or.inl ⟨by rfl, ?y10Q⟩) hHeld ?r10Q
    case y10Q => (intro w hSw; (try dsimp only at hSw); go_simp; first | done | with_reducible rfl)
    (try simp only [Act.put, List.setIfInBounds_toArray, List.set_cons_zero, List.set_cons_succ])
    refine wpAnyH_take_at (i := 11) (v := ?v11Q) rfl (by kernel_rfl) (by kernel_rfl) (by kernel_rfl) (fun _ _ _ h => h) (Or.inl ⟨by rfl, ?y11Q⟩) hHeld ?r11Q
    case y11Q => (intro w hSw; (try dsimp only at hSw); go_simp; first | done | with_reducible rfl)
    (try simp only [Act.put, List.setIfInBounds_toArray, List.set_cons_zero, List.set_cons_succ])
    refine wpAnyH_take_at (i := 12) (v := ?v12Q) rfl (by kernel_rfl) (by kernel_rfl) (by kernel_rfl) (fun _ _ _ h => h) (Or.inl ⟨by rfl, ?y12Q⟩) hHeld ?r12Q
    case y12Q => (intro w hSw; (try dsimp only at hSw); go_simp; first | done | with_reducible rfl)
    (try simp only [Act.put, List.setIfInBounds_toArray, List.set_cons_zero, List.set_cons_succ])
    refine wpAnyH_take_at (i := 14) (v := ?v14Q) rfl (by kernel_rfl) (by kernel_rfl) (by kernel_rfl) (fun _ _ _ h => h) (Or.inl ⟨by rfl, ?y14Q⟩) hHeld ?r14Q
    case y14Q => (intro w hSw; (try dsimp only at hSw); go_simp; first | done | with_reducible rfl)
    (try simp only [Act.put, List.setIfInBounds_toArray, List.set_cons_zero, List.set_cons_succ])
    refine wpAnyH_ready (rs := [13, 15]) (by kernel_rfl) (by simp) (AllReadyH.cons (get_at rfl) (fun K hK => ?_) (AllReadyH.cons (get_at rfl) (fun K hK => ?_) AllReadyH.nil))
    · go_simp
      refine hK.out _ _ ?s13QX (fun hHeld => ?_)
      case s13QX => exact hHeld
      clear hK K
      (try simp only [Act.put, List.setIfInBounds_toArray, List.set_cons_zero, List.set_cons_succ])
      refine wpAnyH_one (i := 15) (by kernel_rfl) rfl (fun K hK => ?_)
      go_simp
      refine hK.out _ _ ?s15QX (fun hHeld => ?_)
      case s15QX => exact HK2.out _
      clear hK K
      (try simp only [Act.put, List.setIfInBounds_toArray, List.set_cons_zero, List.set_cons_succ])
      refine wpAnyH_one (i := 16) (by kernel_rfl) rfl (fun K hK => ?_)
      refine step_append_tail rfl (.tmp 118) (.tmp 120) 23 rfl 25 i0 _ 6 48 Tryd.underlying23 hi0 hz0 hz1' hz2 rfl (by decide) (.slice ao ((addL L bn ⟨4, head, who, an, bn, via⟩) an).length cap) ((addL L bn ⟨4, head, who, an, bn, via⟩) an).length (rlCells ((addL L bn ⟨4, head, who, an, bn, via⟩) an)) (by simp [Act.eval, Act.put]) (Hown.out _ (((Keeps.refl _ _).drew).alloc _)) ⟨wc.heap.size, 0, none⟩ 1 1 [.int .i64 4, .int .i64 head, .int .i64 who, .int .i64 an, .int .i64 bn, .int .i64 via] (by simp [Act.eval, Act.put]) rfl (cells_new _ _ _) (by intro u hu; simp only [List.mem_cons, List.not_mem_nil, or_false] at hu; rcases hu with rfl | rfl | rfl | rfl | rfl | rfl <;> rfl) (by omega) (by unfold maxLen; omega) (by omega) ?_
      intro ao' cap' w2 hown hgrow hfp
      obtain ⟨e1, e3, e4, e5, HP⟩ := HG.out _ _ _ _ (((Keeps.refl _ _).drew).alloc _) hown hgrow hfp
      clear hown hgrow hfp
      refine hK.out _ _ ?s16QX (fun hHeld => ?_)
      case s16QX => exact e1
      clear hK K
      (try simp only [Act.put, List.setIfInBounds_toArray, List.set_cons_zero, List.set_cons_succ])
      refine wpAnyH_take_at (i := 17) (v := ?v17QX) rfl (by kernel_rfl) (by kernel_rfl) (by kernel_rfl) (fun _ _ _ h => h) (Or.inl ⟨by rfl, ?y17QX⟩) hHeld ?r17QX
      case y17QX => (intro w hSw; (try dsimp only at hSw); go_simp; first | done | with_reducible rfl)
      (try simp only [Act.put, List.setIfInBounds_toArray, List.set_cons_zero, List.set_cons_succ])
      refine wpAnyH_one (i := 18) (by kernel_rfl) rfl (fun K hK => ?_)
      go_simp
      refine hK.out _ _ ?s18QX (fun hHeld => ?_)
      case s18QX => exact e5
      clear hK K
      (try simp only [Act.put, List.setIfInBounds_toArray, List.set_cons_zero, List.set_cons_succ])
      refine wpAnyH_done (by kernel_rfl) ?_ _
      refine NoPanic.normal ?_
      go_wp2_with fail
      go_end0
      exact HP.out
    · go_simp
      refine hK.out _ _ ?s15QZ (fun hHeld => ?_)
      case s15QZ => exact HK2.out _
      clear hK K
      (try simp only [Act.put, List.setIfInBounds_toArray, List.set_cons_zero, List.set_cons_succ])
      refine wpAnyH_one (i := 13) (by kernel_rfl) rfl (fun K hK => ?_)
      go_simp
      refine hK.out _ _ ?s13QZ (fun hHeld => ?_)
      case s13QZ => exact hHeld
      clear hK K
      (try simp only [Act.put, List.setIfInBounds_toArray, List.set_cons_zero, List.set_cons_succ])
      refine wpAnyH_one (i := 16) (by kernel_rfl) rfl (fun K hK => ?_)
      refine step_append_tail rfl (.tmp 118) (.tmp 120) 23 rfl 25 i0 _ 6 48 Tryd.underlying23 hi0 hz0 hz1' hz2 rfl (by decide) (.slice ao ((addL L bn ⟨4, head, who, an, bn, via⟩) an).length cap) ((addL L bn ⟨4, head, who, an, bn, via⟩) an).length (rlCells ((addL L bn ⟨4, head, who, an, bn, via⟩) an)) (by simp [Act.eval, Act.put]) (Hown.out _ (((Keeps.refl _ _).drew).alloc _)) ⟨wc.heap.size, 0, none⟩ 1 1 [.int .i64 4, .int .i64 head, .int .i64 who, .int .i64 an, .int .i64 bn, .int .i64 via] (by simp [Act.eval, Act.put]) rfl (cells_new _ _ _) (by intro u hu; simp only [List.mem_cons, List.not_mem_nil, or_false] at hu; rcases hu with rfl | rfl | rfl | rfl | rfl | rfl <;> rfl) (by omega) (by unfold maxLen; omega) (by omega) ?_
      intro ao' cap' w2 hown hgrow hfp
      obtain ⟨e1, e3, e4, e5, HP⟩ := HG.out _ _ _ _ (((Keeps.refl _ _).drew).alloc _) hown hgrow hfp
      clear hown hgrow hfp
      refine hK.out _ _ ?s16QZ (fun hHeld => ?_)
      case s16QZ => exact e1
      clear hK K
      (try simp only [Act.put, List.setIfInBounds_toArray, List.set_cons_zero, List.set_cons_succ])
      refine wpAnyH_take_at (i := 17) (v := ?v17QZ) rfl (by kernel_rfl) (by kernel_rfl) (by kernel_rfl) (fun _ _ _ h => h) (Or.inl ⟨by rfl, ?y17QZ⟩) hHeld ?r17QZ
      case y17QZ => (intro w hSw; (try dsimp only at hSw); go_simp; first | done | with_reducible rfl)
      (try simp only [Act.put, List.setIfInBounds_toArray, List.set_cons_zero, List.set_cons_succ])
      refine wpAnyH_one (i := 18) (by kernel_rfl) rfl (fun K hK => ?_)
      go_simp
      refine hK.out _ _ ?s18QZ (fun hHeld => ?_)
      case s18QZ => exact e5
      clear hK K
      (try simp only [Act.put, List.setIfInBounds_toArray, List.set_cons_zero, List.set_cons_succ])
      refine wpAnyH_done (by kernel_rfl) ?_ _
      refine NoPanic.normal ?_
      go_wp2_with fail
      go_end0
      exact HP.out
set_option maxRecDepth 100000 in
set_option maxHeartbeats 3200000 in
theorem sput_same (h : SemAt W M vr L s vq) (hs : s.steps ≤ 10000000000000000) (hL : ∀ i, (L i).length ≤ 1000000) (head who via : Int) (an : Nat) (ha : an < M.N) :
    Calls Tryd.prog 22 #[.pointer (some ⟨M.mb, 0, none⟩), .agg #[.int .i64 4, .int .i64 head, .int .i64 who, .int .i64 an, .int .i64 an, .int .i64 via]] W (PutPost M vr (addL L an ⟨4, head, who, an, an, via⟩) vq s.tick W) := by
  have hP64 := h.hP
  have hK64 := h.hK
  have hNle : M.N ≤ 64 * 64 := Nat.mul_le_mul hP64 hK64
  have hbx := PutAt.box h ⟨4, head, who, an, an, via⟩
  obtain ⟨n0, n1, n2, n3⟩ := hbx.at_.mcells
  obtain ⟨o0, o1, o2, o3⟩ := hbx.at_.ocells
  have fo := hbx.at_.free.2 3
  obtain ⟨r0, r1, r2, r3, r4, r5⟩ := hbx.rule
  have htk := hbx.tick
  rw [show ((s.steps + 1 : Nat) : Int) = (s.steps : Int) + 1 from by omega] at htk
  have hwt : IntKind.i64.wrap ((s.steps : Int) + 1) = (s.steps : Int) + 1 := IntWalk.i64_in _ (by omega)
  unfold ruleObj at *
  simp only [] at n0 n1 n2 n3 o0 o1 o2 o3 fo r0 r1 r2 r3 r4 r5 htk
  clear hbx
  obtain ⟨i0, hi0, hz0, hz1', hz2⟩ := info_parts rlInfo
  have haI : (an : Int) < (M.N : Int) := by omega
  go_enter Tryd.func22, Tryd.ntmps22
  go_upto_region 2 with fail
  generalize (W.alloc (.cells #[.int .i64 4, .int .i64 head, .int .i64 who, .int .i64 an, .int .i64 an, .int .i64 via] 25)).setCell ⟨M.mo, 3, none⟩ (.int .i64 ((s.steps : Int) + 1)) = wq at htk ⊢
  clear n0 n1 n2 n3 o0 o1 o2 o3 fo r0 r1 r2 r3 r4 r5 h
  have HQ := Lib.hid htk
  obtain ⟨ao, cap, hv, hle, hmx⟩ := htk.at_.rowV (i := an) (by omega)
  have hlen : (L an).length ≤ 1000001 := Nat.le_succ_of_le (hL _)
  have hS0 : (fun w' => w'.cell? ⟨M.mb, 1, none⟩ = some (.slice (some ⟨M.bb, 0, none⟩) M.N M.N) ∧ w'.cell? ⟨M.mb, 2, none⟩ = some (.slice (some ⟨M.vb, 0, none⟩) M.K M.K) ∧ w'.cell? ⟨W.heap.size, 0, none⟩ = some (.int .i64 4) ∧ w'.cell? ⟨W.heap.size, 1, none⟩ = some (.int .i64 head) ∧ w'.cell? ⟨W.heap.size, 2, none⟩ = some (.int .i64 who) ∧ w'.cell? ⟨W.heap.size, 3, none⟩ = some (.int .i64 an) ∧ w'.cell? ⟨W.heap.size, 4, none⟩ = some (.int .i64 an) ∧ w'.cell? ⟨W.heap.size, 5, none⟩ = some (.int .i64 via)) wq.drew := (htk.quiet ((Keeps.refl _ _).drew)).rd.cells
  have HK2 : Hid (∀ o, (fun w' => w'.cell? ⟨M.mb, 1, none⟩ = some (.slice (some ⟨M.bb, 0, none⟩) M.N M.N) ∧ w'.cell? ⟨M.mb, 2, none⟩ = some (.slice (some ⟨M.vb, 0, none⟩) M.K M.K) ∧ w'.cell? ⟨W.heap.size, 0, none⟩ = some (.int .i64 4) ∧ w'.cell? ⟨W.heap.size, 1, none⟩ = some (.int .i64 head) ∧ w'.cell? ⟨W.heap.size, 2, none⟩ = some (.int .i64 who) ∧ w'.cell? ⟨W.heap.size, 3, none⟩ = some (.int .i64 an) ∧ w'.cell? ⟨W.heap.size, 4, none⟩ = some (.int .i64 an) ∧ w'.cell? ⟨W.heap.size, 5, none⟩ = some (.int .i64 via)) (wq.drew.alloc o)) := fun o => (HQ.out.quiet (((Keeps.refl _ _).drew).alloc o)).rd.cells
  have pba : wq.cell? ⟨M.bb, an, none⟩ = some (.slice ao (L an).length cap) := by rw [← hv]; exact htk.rd.bc an ha
  have pfa : wq.frozen? ⟨M.bb, an, none⟩ = false := htk.rd.bf an
  have lb : M.bb < wq.heap.size := lt_of_cell pba
  have Hown : Hid (∀ W', Keeps (fun _ => False) wq W' → TailRow W' 25 6 (.slice ao (L an).length cap) (L an).length (rlCells (L an))) := fun W' hk => by
    have := (HQ.out.at_.keeps hk).rows (an) (by omega)
    rw [hv] at this
    exact this
  have HG : Hid (∀ W1 W2 ao' cap', Keeps (fun _ => False) wq W1 → TailRow W2 25 6 (.slice ao' ((L an).length + 1) cap') ((L an).length + 1) (rlCells (L an) ++ [.int .i64 4, .int .i64 head, .int .i64 who, .int .i64 an, .int .i64 an, .int .i64 via]) → W1.grownBy W2 (Value.slice ao (L an).length cap).ownBlock → (∀ k, (Value.slice ao' ((L an).length + 1) cap').ownBlock = some k → (Value.slice ao (L an).length cap).ownBlock = some k ∨ W1.heap.size ≤ k) →
      (fun w' => w'.cell? ⟨M.mb, 1, none⟩ = some (.slice (some ⟨M.bb, 0, none⟩) M.N M.N) ∧ w'.cell? ⟨M.mb, 2, none⟩ = some (.slice (some ⟨M.vb, 0, none⟩) M.K M.K) ∧ w'.cell? ⟨W.heap.size, 0, none⟩ = some (.int .i64 4) ∧ w'.cell? ⟨W.heap.size, 1, none⟩ = some (.int .i64 head) ∧ w'.cell? ⟨W.heap.size, 2, none⟩ = some (.int .i64 who) ∧ w'.cell? ⟨W.heap.size, 3, none⟩ = some (.int .i64 an) ∧ w'.cell? ⟨W.heap.size, 4, none⟩ = some (.int .i64 an) ∧ w'.cell? ⟨W.heap.size, 5, none⟩ = some (.int .i64 via)) W2 ∧ W2.cell? ⟨M.bb, an, none⟩ = some (.slice ao (L an).length cap) ∧ W2.frozen? ⟨M.bb, an, none⟩ = false ∧ (fun w' => w'.cell? ⟨M.mb, 1, none⟩ = some (.slice (some ⟨M.bb, 0, none⟩) M.N M.N) ∧ w'.cell? ⟨M.mb, 2, none⟩ = some (.slice (some ⟨M.vb, 0, none⟩) M.K M.K) ∧ w'.cell? ⟨W.heap.size, 0, none⟩ = some (.int .i64 4) ∧ w'.cell? ⟨W.heap.size, 1, none⟩ = some (.int .i64 head) ∧ w'.cell? ⟨W.heap.size, 2, none⟩ = some (.int .i64 who) ∧ w'.cell? ⟨W.heap.size, 3, none⟩ = some (.int .i64 an) ∧ w'.cell? ⟨W.heap.size, 4, none⟩ = some (.int .i64 an) ∧ w'.cell? ⟨W.heap.size, 5, none⟩ = some (.int .i64 via)) (W2.setCell ⟨M.bb, an, none⟩ (.slice ao' ((L an).length + 1) cap')) ∧ Hid (PutPost M vr (addL L an ⟨4, head, who, an, an, via⟩) vq s.tick W (.returned (.tuple #[])) (W2.setCell ⟨M.bb, an, none⟩ (.slice ao' ((L an).length + 1) cap')))) := fun W1 W2 ao' cap' k1 ho hgr hfp => by
    rw [← hv] at hgr hfp
    obtain ⟨a1, a2⟩ := HQ.out.grow (g := an) (by omega) k1 ho hgr hfp
    have a3 := a2 ⟨M.bb, an, none⟩ (.inl ⟨ha, rfl⟩)
    exact ⟨a1.cells, by rw [← hv]; exact a1.bc an ha, a1.bf an, a3.out.rd.cells, a3.out.post rfl⟩
  clear htk hv
  obtain ⟨p1, p2, p3, p4, p5, p6, p7, p8⟩ := HQ.out.rd.cells
  simp only [] at p3 p4 p5 p6 p7 p8
  go_upto_region 12 with fail
  clear p1 p2 p3 p4 p5 p6 p7 p8
  refine wp_region_noPanic ?_
  refine wp_region_held_drew (S := fun w' => w'.cell? ⟨M.mb, 1, none⟩ = some (.slice (some ⟨M.bb, 0, none⟩) M.N M.N) ∧ w'.cell? ⟨M.mb, 2, none⟩ = some (.slice (some ⟨M.vb, 0, none⟩) M.K M.K) ∧ w'.cell? ⟨W.heap.size, 0, none⟩ = some (.int .i64 4) ∧ w'.cell? ⟨W.heap.size, 1, none⟩ = some (.int .i64 head) ∧ w'.cell? ⟨W.heap.size, 2, none⟩ = some (.int .i64 who) ∧ w'.cell? ⟨W.heap.size, 3, none⟩ = some (.int .i64 an) ∧ w'.cell? ⟨W.heap.size, 4, none⟩ = some (.int .i64 an) ∧ w'.cell? ⟨W.heap.size, 5, none⟩ = some (.int .i64 via)) (by kernel_rfl) hS0 (fun hHeld => ?_)
  refine wpAnyH_take_at (i := 0) (v := ?v0) rfl (by kernel_rfl) (by kernel_rfl) (by kernel_rfl) (fun _ _ _ h => h) (Or.inl ⟨by rfl, ?y0⟩) hHeld ?r0
  case y0 => (intro w hSw; (try dsimp only at hSw); go_simp; first | done | with_reducible rfl)
  (try simp only [Act.put, List.setIfInBounds_toArray, List.set_cons_zero, List.set_cons_succ])
  refine wpAnyH_take_at (i := 1) (v := ?v1) rfl (by kernel_rfl) (by kernel_rfl) (by kernel_rfl) (fun _ _ _ h => h) (Or.inl ⟨by rfl, ?y1⟩) hHeld ?r1
  case y1 => (intro w hSw; (try dsimp only at hSw); go_simp; first | done | with_reducible rfl)
  (try simp only [Act.put, List.setIfInBounds_toArray, List.set_cons_zero, List.set_cons_succ])
  refine wpAnyH_take_at (i := 2) (v := ?v2) rfl (by kernel_rfl) (by kernel_rfl) (by kernel_rfl) (fun _ _ _ h => h) (Or.inl ⟨by rfl, ?y2⟩) hHeld ?r2
  case y2 => (intro w hSw; (try dsimp only at hSw); go_simp; first | done | with_reducible rfl)
  (try simp only [Act.put, List.setIfInBounds_toArray, List.set_cons_zero, List.set_cons_succ])
  refine wpAnyH_take_at (i := 3) (v := ?v3) rfl (by kernel_rfl) (by kernel_rfl) (by kernel_rfl) (fun _ _ _ h => h) (Or.inl ⟨by rfl, ?y3⟩) hHeld ?r3
  case y3 => (intro w hSw; (try dsimp only at hSw); go_simp; first | done | with_reducible rfl)
  (try simp only [Act.put, List.setIfInBounds_toArray, List.set_cons_zero, List.set_cons_succ])
  refine wpAnyH_take_at (i := 4) (v := ?v4) rfl (by kernel_rfl) (by kernel_rfl) (by kernel_rfl) (fun _ _ _ h => h) (Or.inl ⟨by rfl, ?y4⟩) hHeld ?r4
  case y4 => (intro w hSw; (try dsimp only at hSw); go_simp; first | done | with_reducible rfl)
  (try simp only [Act.put, List.setIfInBounds_toArray, List.set_cons_zero, List.set_cons_succ])
  refine wpAnyH_take_at (i := 5) (v := ?v5) rfl (by kernel_rfl) (by kernel_rfl) (by kernel_rfl) (fun _ _ _ h => h) (Or.inl ⟨by rfl, ?y5⟩) hHeld ?r5
  case y5 => (intro w hSw; (try dsimp only at hSw); go_simp; first | done | with_reducible rfl)
  (try simp only [Act.put, List.setIfInBounds_toArray, List.set_cons_zero, List.set_cons_succ])
  refine wpAnyH_take_at (i := 6) (v := ?v6) rfl (by kernel_rfl) (by kernel_rfl) (by kernel_rfl) (fun _ _ _ h => h) (Or.inl ⟨by rfl, ?y6⟩) hHeld ?r6
  case y6 => (intro w hSw; (try dsimp only at hSw); go_simp; first | done | with_reducible rfl)
  (try simp only [Act.put, List.setIfInBounds_toArray, List.set_cons_zero, List.set_cons_succ])
  refine wpAnyH_take_at (i := 7) (v := ?v7) rfl (by kernel_rfl) (by kernel_rfl) (by kernel_rfl) (fun _ _ _ h => h) (Or.inl ⟨by rfl, ?y7⟩) hHeld ?r7
  case y7 => (intro w hSw; (try dsimp only at hSw); go_simp; first | done | with_reducible rfl)
  (try simp only [Act.put, List.setIfInBounds_toArray, List.set_cons_zero, List.set_cons_succ])
  refine wpAnyH_take_at (i := 8) (v := ?v8) rfl (by kernel_rfl) (by kernel_rfl) (by kernel_rfl) (fun _ _ _ h => h) (Or.inl ⟨by rfl, ?y8⟩) hHeld ?r8
  case y8 => (intro w hSw; (try dsimp only at hSw); go_simp; first | done | with_reducible rfl)
  (try simp only [Act.put, List.setIfInBounds_toArray, List.set_cons_zero, List.set_cons_succ])
  refine wpAnyH_take_at (i := 9) (v := ?v9) rfl (by kernel_rfl) (by kernel_rfl) (by kernel_rfl) (fun _ _ _ h => h) (Or.inl ⟨by rfl, ?y9⟩) hHeld ?r9
  case y9 => (intro w hSw; (try dsimp only at hSw); go_simp; first | done | with_reducible rfl)
  (try simp only [Act.put, List.setIfInBounds_toArray, List.set_cons_zero, List.set_cons_succ])
  refine wpAnyH_take_at (i := 10) (v := ?v10) rfl (by kernel_rfl) (by kernel_rfl) (by kernel_rfl) (fun _ _ _ h => h) (Or.inl ⟨by rfl, ?y10⟩) hHeld ?r10
  case y10 => (intro w hSw; (try dsimp only at hSw); go_simp; first | done | with_reducible rfl)
  (try simp only [Act.put, List.setIfInBounds_toArray, List.set_cons_zero, List.set_cons_succ])
  refine wpAnyH_take_at (i := 11) (v := ?v11) rfl (by kernel_rfl) (by kernel_rfl) (by kernel_rfl) (fun _ _ _ h => h) (Or.inl ⟨by rfl, ?y11⟩) hHeld ?r11
  case y11 => (intro w hSw; (try dsimp only at hSw); go_simp; first | done | with_reducible rfl)
  (try simp only [Act.put, List.setIfInBounds_toArray, List.set_cons_zero, List.set_cons_succ])
  refine wpAnyH_take_at (i := 12) (v := ?v12) rfl (by kernel_rfl) (by kernel_rfl) (by kernel_rfl) (fun _ _ _ h => h) (Or.inl ⟨by rfl, ?y12⟩) hHeld ?r12
  case y12 => (intro w hSw; (try dsimp only at hSw); go_simp; first | done | with_reducible rfl)
  (try simp only [Act.put, List.setIfInBounds_toArray, List.set_cons_zero, List.set_cons_succ])
  refine wpAnyH_take_at (i := 14) (v := ?v14) rfl (by kernel_rfl) (by kernel_rfl) (by kernel_rfl) (fun _ _ _ h => h) (Or.inl ⟨by rfl, ?y14⟩) hHeld ?r14
  case y14 => (intro w hSw; (try dsimp only at hSw); go_simp; first | done | with_reducible rfl)
  (try simp only [Act.put, List.setIfInBounds_toArray, List.set_cons_zero, List.set_cons_succ])
  refine wpAnyH_ready (rs := [13, 15]) (by kernel_rfl) (by simp) (AllReadyH.cons (get_at rfl) (fun K hK => ?_) (AllReadyH.cons (get_at rfl) (fun K hK => ?_) AllReadyH.nil))
  · go_simp
    refine hK.out _ _ ?s13X (fun hHeld => ?_)
    case s13X => exact hHeld
    clear hK K
    (try simp only [Act.put, List.setIfInBounds_toArray, List.set_cons_zero, List.set_cons_succ])
    refine wpAnyH_one (i := 15) (by kernel_rfl) rfl (fun K hK => ?_)
    go_simp
    refine hK.out _ _ ?s15X (fun hHeld => ?_)
    case s15X => exact HK2.out _
    clear hK K
    (try simp only [Act.put, List.setIfInBounds_toArray, List.set_cons_zero, List.set_cons_succ])
    refine wpAnyH_one (i := 16) (by kernel_rfl) rfl (fun K hK => ?_)
    refine step_append_tail rfl (.tmp 118) (.tmp 120) 23 rfl 25 i0 _ 6 48 Tryd.underlying23 hi0 hz0 hz1' hz2 rfl (by decide) (.slice ao (L an).length cap) (L an).length (rlCells (L an)) (by simp [Act.eval, Act.put]) (Hown.out _ (((Keeps.refl _ _).drew).alloc _)) ⟨wq.heap.size, 0, none⟩ 1 1 [.int .i64 4, .int .i64 head, .int .i64 who, .int .i64 an, .int .i64 an, .int .i64 via] (by simp [Act.eval, Act.put]) rfl (cells_new _ _ _) (by intro u hu; simp only [List.mem_cons, List.not_mem_nil, or_false] at hu; rcases hu with rfl | rfl | rfl | rfl | rfl | rfl <;> rfl) (by omega) (by unfold maxLen; omega) (by omega) ?_
    intro ao' cap' w2 hown hgrow hfp
    obtain ⟨e1, e3, e4, e5, HP⟩ := HG.out _ _ _ _ (((Keeps.refl _ _).drew).alloc _) hown hgrow hfp
    clear hown hgrow hfp
    refine hK.out _ _ ?s16X (fun hHeld => ?_)
    case s16X => exact e1
    clear hK K
    (try simp only [Act.put, List.setIfInBounds_toArray, List.set_cons_zero, List.set_cons_succ])
    refine wpAnyH_take_at (i := 17) (v := ?v17X) rfl (by kernel_rfl) (by kernel_rfl) (by kernel_rfl) (fun _ _ _ h => h) (Or.inl ⟨by rfl, ?y17X⟩) hHeld ?r17X
    case y17X => (intro w hSw; (try dsimp only at hSw); go_simp; first | done | with_reducible rfl)
    (try simp only [Act.put, List.setIfInBounds_toArray, List.set_cons_zero, List.set_cons_succ])
    refine wpAnyH_one (i := 18) (by kernel_rfl) rfl (fun K hK => ?_)
    go_simp
    refine hK.out _ _ ?s18X (fun hHeld => ?_)
    case s18X => exact e5
    clear hK K
    (try simp only [Act.put, List.setIfInBounds_toArray, List.set_cons_zero, List.set_cons_succ])
    refine wpAnyH_done (by kernel_rfl) ?_ _
    refine NoPanic.normal ?_
    go_wp2_with fail
    go_end0
    exact HP.out
  · go_simp
    refine hK.out _ _ ?s15Z (fun hHeld => ?_)
    case s15Z => exact HK2.out _
    clear hK K
    (try simp only [Act.put, List.setIfInBounds_toArray, List.set_cons_zero, List.set_cons_succ])
    refine wpAnyH_one (i := 13) (by kernel_rfl) rfl (fun K hK => ?_)
    go_simp
    refine hK.out _ _ ?s13Z (fun hHeld => ?_)
    case s13Z => exact hHeld
    clear hK K
    (try simp only [Act.put, List.setIfInBounds_toArray, List.set_cons_zero, List.set_cons_succ])
    refine wpAnyH_one (i := 16) (by kernel_rfl) rfl (fun K hK => ?_)
    refine step_append_tail rfl (.tmp 118) (.tmp 120) 23 rfl 25 i0 _ 6 48 Tryd.underlying23 hi0 hz0 hz1' hz2 rfl (by decide) (.slice ao (L an).length cap) (L an).length (rlCells (L an)) (by simp [Act.eval, Act.put]) (Hown.out _ (((Keeps.refl _ _).drew).alloc _)) ⟨wq.heap.size, 0, none⟩ 1 1 [.int .i64 4, .int .i64 head, .int .i64 who, .int .i64 an, .int .i64 an, .int .i64 via] (by simp [Act.eval, Act.put]) rfl (cells_new _ _ _) (by intro u hu; simp only [List.mem_cons, List.not_mem_nil, or_false] at hu; rcases hu with rfl | rfl | rfl | rfl | rfl | rfl <;> rfl) (by omega) (by unfold maxLen; omega) (by omega) ?_
    intro ao' cap' w2 hown hgrow hfp
    obtain ⟨e1, e3, e4, e5, HP⟩ := HG.out _ _ _ _ (((Keeps.refl _ _).drew).alloc _) hown hgrow hfp
    clear hown hgrow hfp
    refine hK.out _ _ ?s16Z (fun hHeld => ?_)
    case s16Z => exact e1
    clear hK K
    (try simp only [Act.put, List.setIfInBounds_toArray, List.set_cons_zero, List.set_cons_succ])
    refine wpAnyH_take_at (i := 17) (v := ?v17Z) rfl (by kernel_rfl) (by kernel_rfl) (by kernel_rfl) (fun _ _ _ h => h) (Or.inl ⟨by rfl, ?y17Z⟩) hHeld ?r17Z
    case y17Z => (intro w hSw; (try dsimp only at hSw); go_simp; first | done | with_reducible rfl)
    (try simp only [Act.put, List.setIfInBounds_toArray, List.set_cons_zero, List.set_cons_succ])
    refine wpAnyH_one (i := 18) (by kernel_rfl) rfl (fun K hK => ?_)
    go_simp
    refine hK.out _ _ ?s18Z (fun hHeld => ?_)
    case s18Z => exact e5
    clear hK K
    (try simp only [Act.put, List.setIfInBounds_toArray, List.set_cons_zero, List.set_cons_succ])
    refine wpAnyH_done (by kernel_rfl) ?_ _
    refine NoPanic.normal ?_
    go_wp2_with fail
    go_end0
    exact HP.out
end
end Go.Proofs.YtckjgefpelnkoaaDoor
