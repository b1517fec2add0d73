/-
  A region that draws its order: the condition that is held may be changed on the way.
-/
import Derived.Test.YtaabmkebbnkonaaDoorKit
import Derived.Deep.RegionHeld3
import Derived.Test.YtaabmkebbnkonaaDoorMB
import Derived.Deep.QuietTactic
import Derived.BigQuiet
set_option linter.unusedVariables false
namespace Go.Proofs.YtaabmkebbnkonaaDoor
open Go
theorem wpAnyH_change {P : Program} {md : Region.Mode} {ops : Array Oper} {Q : Exit → Act → World → Prop} {S S' : World → Prop} (hs : ∀ w, S' w → S w) :
    ∀ (fuel : Nat) (listed : Array Bool) (a : Act) (w : World), wpAnyH P md ops Q S' fuel listed a w → wpAnyH P md ops Q S fuel listed a w
  | 0, _, _, _, h => h
  | fuel + 1, _, _, _, h => ⟨h.1, fun i hi => wpOp_mono (fun a' w' h' => ⟨hs _ h'.1, wpAnyH_change hs fuel _ a' w' h'.2⟩) (h.2 i hi)⟩
theorem get_at {ops : Array Oper} {i : Nat} {oi : Oper} {rest : List Oper} (h : ops.toList.drop i = oi :: rest) : ops[i]? = some oi := by
  have := congrArg (fun l => l[0]?) h
  simpa using this
/-- As 'wpAnyH_take': the operation comes written out of the list's rest. -/
theorem wpAnyH_take_at {P : Program} {md : Region.Mode} {ops : Array Oper} {Q : Exit → Act → World → Prop} {S : World → Prop} {i : Nat} {oi : Oper} {rest : List Oper} {v : Value} {fuel : Nat} {listed : Array Bool} {a : Act} {w : World} (hi : ops.toList.drop i = oi :: rest)
    (hs : Region.noSelect ops = true) (hf : Region.free md ops listed i = true) (hr : (Region.ready md ops listed).contains i = true)
    (hQ : ∀ c a w, Q (.panic c) (a.put oi.dst v) w → Q (.panic c) a w) (hy : YieldsIf P ops S oi v a) (hS : S w)
    (h : wpAnyH P md ops Q S fuel (listed.setIfInBounds i true) (a.put oi.dst v) w) : wpAnyH P md ops Q S (fuel + 1) listed a w :=
  wpAnyH_take (get_at hi) hs hf hr hQ hy hS h
/-- As 'AllReadyH.cons', for one operation alone. -/
theorem wpAnyH_one {P : Program} {md : Region.Mode} {ops : Array Oper} {Q : Exit → Act → World → Prop} {S : World → Prop} {i : Nat} {o : Oper} {rest : List Oper} {fuel : Nat} {listed : Array Bool} {a : Act} {w : World} (hr : Region.ready md ops listed = [i]) (hi : ops.toList.drop i = o :: rest)
    (h : ∀ K' : Act → World → Prop, Shut (∀ a w, S w → (S w → wpAnyH P md ops Q S fuel (listed.setIfInBounds i true) a w) → K' a w) → if Region.wanted o (yielded ops a.tmps) = true then Oper.wp P o a w K' Q else K' (a.put o.dst undef) w) :
    wpAnyH P md ops Q S (fuel + 1) listed a w :=
  wpAnyH_ready hr (by simp) (AllReadyH.cons (get_at hi) h AllReadyH.nil)
end Go.Proofs.YtaabmkebbnkonaaDoor
/-
  The walk of the maker's put.
-/
set_option linter.unusedVariables false
set_option linter.unusedSimpArgs false
set_option linter.unnecessarySimpa false
namespace Go.Proofs.YtaabmkebbnkonaaDoor
open Go.ChangeShapes Go.WideShapes Go.ChangeAt Go.RowKit Go.Deep SetPlain
def PutPost (M : Mk) (vr : Nat → Value) (L : Nat → List Rl) (vq : Value) (t : St) (W : World) (e : Ending) (W' : World) : Prop :=
  e = .returned (.tuple #[]) ∧ ∃ vr' vq', SemAt W' M vr' L t vq' ∧ SemStep M vr vr' vq vq' W W'
def PutC (M : Mk) (x : Nat) (r : Rl) (W : World) : Prop :=
  W.cell? ⟨M.mb, 1, none⟩ = some (.slice (some ⟨M.bb, 0, none⟩) M.N M.N) ∧ W.cell? ⟨M.mb, 2, none⟩ = some (.slice (some ⟨M.vb, 0, none⟩) M.K M.K) ∧ W.cell? ⟨x, 0, none⟩ = some (.int .i64 r.kind) ∧ W.cell? ⟨x, 1, none⟩ = some (.int .i64 r.head) ∧ W.cell? ⟨x, 2, none⟩ = some (.int .i64 r.who) ∧ W.cell? ⟨x, 3, none⟩ = some (.int .i64 r.a) ∧ W.cell? ⟨x, 4, none⟩ = some (.int .i64 r.b) ∧ W.cell? ⟨x, 5, none⟩ = some (.int .i64 r.via)
theorem PutS.cells {M : Mk} {vr : Nat → Value} {x : Nat} {r : Rl} {W : World} (h : PutS M vr x r W) : PutC M x r W := ⟨h.by_, h.via_, h.rule⟩
section
variable {W : World} {M : Mk} {vr : Nat → Value} {L : Nat → List Rl} {s : St} {vq : Value}
theorem PutAt.post {W0 : World} {vr0 : Nat → Value} {vq0 : Value} {x : Nat} {r : Rl} {L' : Nat → List Rl} (h : PutAt W0 M vr0 vr L vq0 x r s vq W) (e : L = L') : PutPost M vr0 L' vq0 s W0 (.returned (.tuple #[])) W := ⟨rfl, vr, vq, e ▸ h.at_, h.step⟩
theorem Keeps.two {W' : World} (o : Obj) : Keeps (fun _ => False) W (W.drew.alloc o) := ((Keeps.refl _ _).drew).alloc _
set_option maxRecDepth 100000 in
set_option maxHeartbeats 3200000 in
theorem sput_incl (h : SemAt W M vr L s vq) (hs : s.steps ≤ 10000000000000000) (hL : ∀ i, (L i).length ≤ 1000000) (head who b via : Int) (an : Nat) (ha : an < M.N) :
    Calls Tryd.prog 44 #[.pointer (some ⟨M.mb, 0, none⟩), .agg #[.int .i64 2, .int .i64 head, .int .i64 who, .int .i64 an, .int .i64 b, .int .i64 via]] W (PutPost M vr (addL L an ⟨2, head, who, an, b, via⟩) vq s.tick W) := by
  have hP64 := h.hP
  have hK64 := h.hK
  have hNle : M.N ≤ 64 * 64 := Nat.mul_le_mul hP64 hK64
  have hbx := PutAt.box h ⟨2, head, who, an, b, via⟩
  obtain ⟨n0, n1, n2, n3⟩ := hbx.at_.mcells
  obtain ⟨o0, o1, o2, o3⟩ := hbx.at_.ocells
  have fo := hbx.at_.free.2 3
  obtain ⟨r0, r1, r2, r3, r4, r5⟩ := hbx.rule
  have htk := hbx.tick
  rw [show ((s.steps + 1 : Nat) : Int) = (s.steps : Int) + 1 from by omega] at htk
  have hwt : IntKind.i64.wrap ((s.steps : Int) + 1) = (s.steps : Int) + 1 := IntWalk.i64_in _ (by omega)
  unfold ruleObj at *
  simp only [] at n0 n1 n2 n3 o0 o1 o2 o3 fo r0 r1 r2 r3 r4 r5 htk
  clear hbx
  obtain ⟨i0, hi0, hz0, hz1', hz2⟩ := info_parts rlInfo
  have haI : (an : Int) < (M.N : Int) := by omega
  go_enter Tryd.func44, Tryd.ntmps44
  go_upto_region 2 with fail
  generalize (W.alloc (.cells #[.int .i64 2, .int .i64 head, .int .i64 who, .int .i64 an, .int .i64 b, .int .i64 via] 29)).setCell ⟨M.mo, 3, none⟩ (.int .i64 ((s.steps : Int) + 1)) = wq at htk ⊢
  clear n0 n1 n2 n3 o0 o1 o2 o3 fo r0 r1 r2 r3 r4 r5 h
  have HQ := Lib.hid htk
  obtain ⟨ao, cap, hv, hle, hmx⟩ := htk.at_.rowV (i := an) (by omega)
  have hlen : (L an).length ≤ 1000001 := Nat.le_succ_of_le (hL _)
  have hS0 : (fun w' => w'.cell? ⟨M.mb, 1, none⟩ = some (.slice (some ⟨M.bb, 0, none⟩) M.N M.N) ∧ w'.cell? ⟨M.mb, 2, none⟩ = some (.slice (some ⟨M.vb, 0, none⟩) M.K M.K) ∧ w'.cell? ⟨W.heap.size, 0, none⟩ = some (.int .i64 2) ∧ w'.cell? ⟨W.heap.size, 1, none⟩ = some (.int .i64 head) ∧ w'.cell? ⟨W.heap.size, 2, none⟩ = some (.int .i64 who) ∧ w'.cell? ⟨W.heap.size, 3, none⟩ = some (.int .i64 an) ∧ w'.cell? ⟨W.heap.size, 4, none⟩ = some (.int .i64 b) ∧ w'.cell? ⟨W.heap.size, 5, none⟩ = some (.int .i64 via)) wq.drew := (htk.quiet ((Keeps.refl _ _).drew)).rd.cells
  have HK2 : Hid (∀ o, (fun w' => w'.cell? ⟨M.mb, 1, none⟩ = some (.slice (some ⟨M.bb, 0, none⟩) M.N M.N) ∧ w'.cell? ⟨M.mb, 2, none⟩ = some (.slice (some ⟨M.vb, 0, none⟩) M.K M.K) ∧ w'.cell? ⟨W.heap.size, 0, none⟩ = some (.int .i64 2) ∧ w'.cell? ⟨W.heap.size, 1, none⟩ = some (.int .i64 head) ∧ w'.cell? ⟨W.heap.size, 2, none⟩ = some (.int .i64 who) ∧ w'.cell? ⟨W.heap.size, 3, none⟩ = some (.int .i64 an) ∧ w'.cell? ⟨W.heap.size, 4, none⟩ = some (.int .i64 b) ∧ w'.cell? ⟨W.heap.size, 5, none⟩ = some (.int .i64 via)) (wq.drew.alloc o)) := fun o => (HQ.out.quiet (((Keeps.refl _ _).drew).alloc o)).rd.cells
  have pba : wq.cell? ⟨M.bb, an, none⟩ = some (.slice ao (L an).length cap) := by rw [← hv]; exact htk.rd.bc an ha
  have pfa : wq.frozen? ⟨M.bb, an, none⟩ = false := htk.rd.bf an
  have lb : M.bb < wq.heap.size := lt_of_cell pba
  have Hown : Hid (∀ W', Keeps (fun _ => False) wq W' → TailRow W' 29 6 (.slice ao (L an).length cap) (L an).length (rlCells (L an))) := fun W' hk => by
    have := (HQ.out.at_.keeps hk).rows (an) (by omega)
    rw [hv] at this
    exact this
  have HG : Hid (∀ W1 W2 ao' cap', Keeps (fun _ => False) wq W1 → TailRow W2 29 6 (.slice ao' ((L an).length + 1) cap') ((L an).length + 1) (rlCells (L an) ++ [.int .i64 2, .int .i64 head, .int .i64 who, .int .i64 an, .int .i64 b, .int .i64 via]) → W1.grownBy W2 (Value.slice ao (L an).length cap).ownBlock → (∀ k, (Value.slice ao' ((L an).length + 1) cap').ownBlock = some k → (Value.slice ao (L an).length cap).ownBlock = some k ∨ W1.heap.size ≤ k) →
      (fun w' => w'.cell? ⟨M.mb, 1, none⟩ = some (.slice (some ⟨M.bb, 0, none⟩) M.N M.N) ∧ w'.cell? ⟨M.mb, 2, none⟩ = some (.slice (some ⟨M.vb, 0, none⟩) M.K M.K) ∧ w'.cell? ⟨W.heap.size, 0, none⟩ = some (.int .i64 2) ∧ w'.cell? ⟨W.heap.size, 1, none⟩ = some (.int .i64 head) ∧ w'.cell? ⟨W.heap.size, 2, none⟩ = some (.int .i64 who) ∧ w'.cell? ⟨W.heap.size, 3, none⟩ = some (.int .i64 an) ∧ w'.cell? ⟨W.heap.size, 4, none⟩ = some (.int .i64 b) ∧ w'.cell? ⟨W.heap.size, 5, none⟩ = some (.int .i64 via)) W2 ∧ W2.cell? ⟨M.bb, an, none⟩ = some (.slice ao (L an).length cap) ∧ W2.frozen? ⟨M.bb, an, none⟩ = false ∧ (fun w' => w'.cell? ⟨M.mb, 1, none⟩ = some (.slice (some ⟨M.bb, 0, none⟩) M.N M.N) ∧ w'.cell? ⟨M.mb, 2, none⟩ = some (.slice (some ⟨M.vb, 0, none⟩) M.K M.K) ∧ w'.cell? ⟨W.heap.size, 0, none⟩ = some (.int .i64 2) ∧ w'.cell? ⟨W.heap.size, 1, none⟩ = some (.int .i64 head) ∧ w'.cell? ⟨W.heap.size, 2, none⟩ = some (.int .i64 who) ∧ w'.cell? ⟨W.heap.size, 3, none⟩ = some (.int .i64 an) ∧ w'.cell? ⟨W.heap.size, 4, none⟩ = some (.int .i64 b) ∧ w'.cell? ⟨W.heap.size, 5, none⟩ = some (.int .i64 via)) (W2.setCell ⟨M.bb, an, none⟩ (.slice ao' ((L an).length + 1) cap')) ∧ Hid (PutPost M vr (addL L an ⟨2, head, who, an, b, via⟩) vq s.tick W (.returned (.tuple #[])) (W2.setCell ⟨M.bb, an, none⟩ (.slice ao' ((L an).length + 1) cap')))) := fun W1 W2 ao' cap' k1 ho hgr hfp => by
    rw [← hv] at hgr hfp
    obtain ⟨a1, a2⟩ := HQ.out.grow (g := an) (by omega) k1 ho hgr hfp
    have a3 := a2 ⟨M.bb, an, none⟩ (.inl ⟨ha, rfl⟩)
    exact ⟨a1.cells, by rw [← hv]; exact a1.bc an ha, a1.bf an, a3.out.rd.cells, a3.out.post rfl⟩
  clear htk hv
  obtain ⟨p1, p2, p3, p4, p5, p6, p7, p8⟩ := HQ.out.rd.cells
  simp only [] at p3 p4 p5 p6 p7 p8
  go_upto_region 3 with fail
  clear p1 p2 p3 p4 p5 p6 p7 p8
  refine wp_region_noPanic ?_
  refine wp_region_held_drew (S := fun w' => w'.cell? ⟨M.mb, 1, none⟩ = some (.slice (some ⟨M.bb, 0, none⟩) M.N M.N) ∧ w'.cell? ⟨M.mb, 2, none⟩ = some (.slice (some ⟨M.vb, 0, none⟩) M.K M.K) ∧ w'.cell? ⟨W.heap.size, 0, none⟩ = some (.int .i64 2) ∧ w'.cell? ⟨W.heap.size, 1, none⟩ = some (.int .i64 head) ∧ w'.cell? ⟨W.heap.size, 2, none⟩ = some (.int .i64 who) ∧ w'.cell? ⟨W.heap.size, 3, none⟩ = some (.int .i64 an) ∧ w'.cell? ⟨W.heap.size, 4, none⟩ = some (.int .i64 b) ∧ w'.cell? ⟨W.heap.size, 5, none⟩ = some (.int .i64 via)) (by kernel_rfl) hS0 (fun hHeld => ?_)
  refine wpAnyH_take_at (i := 0) (v := ?v0) rfl (by kernel_rfl) (by kernel_rfl) (by kernel_rfl) (fun _ _ _ h => h) (Or.inl ⟨by rfl, ?y0⟩) hHeld ?r0
  case y0 => (intro w hSw; (try dsimp only at hSw); go_simp; first | done | with_reducible rfl)
  (try simp only [Act.put, List.setIfInBounds_toArray, List.set_cons_zero, List.set_cons_succ])
  refine wpAnyH_take_at (i := 1) (v := ?v1) rfl (by kernel_rfl) (by kernel_rfl) (by kernel_rfl) (fun _ _ _ h => h) (Or.inl ⟨by rfl, ?y1⟩) hHeld ?r1
  case y1 => (intro w hSw; (try dsimp only at hSw); go_simp; first | done | with_reducible rfl)
  (try simp only [Act.put, List.setIfInBounds_toArray, List.set_cons_zero, List.set_cons_succ])
  refine wpAnyH_take_at (i := 2) (v := ?v2) rfl (by kernel_rfl) (by kernel_rfl) (by kernel_rfl) (fun _ _ _ h => h) (Or.inl ⟨by rfl, ?y2⟩) hHeld ?r2
  case y2 => (intro w hSw; (try dsimp only at hSw); go_simp; first | done | with_reducible rfl)
  (try simp only [Act.put, List.setIfInBounds_toArray, List.set_cons_zero, List.set_cons_succ])
  refine wpAnyH_take_at (i := 3) (v := ?v3) rfl (by kernel_rfl) (by kernel_rfl) (by kernel_rfl) (fun _ _ _ h => h) (Or.inl ⟨by rfl, ?y3⟩) hHeld ?r3
  case y3 => (intro w hSw; (try dsimp only at hSw); go_simp; first | done | with_reducible rfl)
  (try simp only [Act.put, List.setIfInBounds_toArray, List.set_cons_zero, List.set_cons_succ])
  refine wpAnyH_take_at (i := 4) (v := ?v4) rfl (by kernel_rfl) (by kernel_rfl) (by kernel_rfl) (fun _ _ _ h => h) (Or.inl ⟨by rfl, ?y4⟩) hHeld ?r4
  case y4 => (intro w hSw; (try dsimp only at hSw); go_simp; first | done | with_reducible rfl)
  (try simp only [Act.put, List.setIfInBounds_toArray, List.set_cons_zero, List.set_cons_succ])
  refine wpAnyH_take_at (i := 5) (v := ?v5) rfl (by kernel_rfl) (by kernel_rfl) (by kernel_rfl) (fun _ _ _ h => h) (Or.inl ⟨by rfl, ?y5⟩) hHeld ?r5
  case y5 => (intro w hSw; (try dsimp only at hSw); go_simp; first | done | with_reducible rfl)
  (try simp only [Act.put, List.setIfInBounds_toArray, List.set_cons_zero, List.set_cons_succ])
  refine wpAnyH_take_at (i := 6) (v := ?v6) rfl (by kernel_rfl) (by kernel_rfl) (by kernel_rfl) (fun _ _ _ h => h) (Or.inl ⟨by rfl, ?y6⟩) hHeld ?r6
  case y6 => (intro w hSw; (try dsimp only at hSw); go_simp; first | done | with_reducible rfl)
  (try simp only [Act.put, List.setIfInBounds_toArray, List.set_cons_zero, List.set_cons_succ])
  refine wpAnyH_take_at (i := 7) (v := ?v7) rfl (by kernel_rfl) (by kernel_rfl) (by kernel_rfl) (fun _ _ _ h => h) (Or.inl ⟨by rfl, ?y7⟩) hHeld ?r7
  case y7 => (intro w hSw; (try dsimp only at hSw); go_simp; first | done | with_reducible rfl)
  (try simp only [Act.put, List.setIfInBounds_toArray, List.set_cons_zero, List.set_cons_succ])
  refine wpAnyH_take_at (i := 8) (v := ?v8) rfl (by kernel_rfl) (by kernel_rfl) (by kernel_rfl) (fun _ _ _ h => h) (Or.inl ⟨by rfl, ?y8⟩) hHeld ?r8
  case y8 => (intro w hSw; (try dsimp only at hSw); go_simp; first | done | with_reducible rfl)
  (try simp only [Act.put, List.setIfInBounds_toArray, List.set_cons_zero, List.set_cons_succ])
  refine wpAnyH_take_at (i := 9) (v := ?v9) rfl (by kernel_rfl) (by kernel_rfl) (by kernel_rfl) (fun _ _ _ h => h) (Or.inl ⟨by rfl, ?y9⟩) hHeld ?r9
  case y9 => (intro w hSw; (try dsimp only at hSw); go_simp; first | done | with_reducible rfl)
  (try simp only [Act.put, List.setIfInBounds_toArray, List.set_cons_zero, List.set_cons_succ])
  refine wpAnyH_take_at (i := 10) (v := ?v10) rfl (by kernel_rfl) (by kernel_rfl) (by kernel_rfl) (fun _ _ _ h => h) (Or.inl ⟨by rfl, ?y10⟩) hHeld ?r10
  case y10 => (intro w hSw; (try dsimp only at hSw); go_simp; first | done | with_reducible rfl)
  (try simp only [Act.put, List.setIfInBounds_toArray, List.set_cons_zero, List.set_cons_succ])
  refine wpAnyH_take_at (i := 11) (v := ?v11) rfl (by kernel_rfl) (by kernel_rfl) (by kernel_rfl) (fun _ _ _ h => h) (Or.inl ⟨by rfl, ?y11⟩) hHeld ?r11
  case y11 => (intro w hSw; (try dsimp only at hSw); go_simp; first | done | with_reducible rfl)
  (try simp only [Act.put, List.setIfInBounds_toArray, List.set_cons_zero, List.set_cons_succ])
  refine wpAnyH_take_at (i := 12) (v := ?v12) rfl (by kernel_rfl) (by kernel_rfl) (by kernel_rfl) (fun _ _ _ h => h) (Or.inl ⟨by rfl, ?y12⟩) hHeld ?r12
  case y12 => (intro w hSw; (try dsimp only at hSw); go_simp; first | done | with_reducible rfl)
  (try simp only [Act.put, List.setIfInBounds_toArray, List.set_cons_zero, List.set_cons_succ])
  refine wpAnyH_take_at (i := 14) (v := ?v14) rfl (by kernel_rfl) (by kernel_rfl) (by kernel_rfl) (fun _ _ _ h => h) (Or.inl ⟨by rfl, ?y14⟩) hHeld ?r14
  case y14 => (intro w hSw; (try dsimp only at hSw); go_simp; first | done | with_reducible rfl)
  (try simp only [Act.put, List.setIfInBounds_toArray, List.set_cons_zero, List.set_cons_succ])
  refine wpAnyH_ready (rs := [13, 15]) (by kernel_rfl) (by simp) (AllReadyH.cons (get_at rfl) (fun K hK => ?_) (AllReadyH.cons (get_at rfl) (fun K hK => ?_) AllReadyH.nil))
  · go_simp
    refine hK.out _ _ ?s13X (fun hHeld => ?_)
    case s13X => exact hHeld
    clear hK K
    (try simp only [Act.put, List.setIfInBounds_toArray, List.set_cons_zero, List.set_cons_succ])
    refine wpAnyH_one (i := 15) (by kernel_rfl) rfl (fun K hK => ?_)
    go_simp
    refine hK.out _ _ ?s15X (fun hHeld => ?_)
    case s15X => exact HK2.out _
    clear hK K
    (try simp only [Act.put, List.setIfInBounds_toArray, List.set_cons_zero, List.set_cons_succ])
    refine wpAnyH_one (i := 16) (by kernel_rfl) rfl (fun K hK => ?_)
    refine step_append_tail rfl (.tmp 29) (.tmp 31) 38 rfl 29 i0 _ 6 48 Tryd.underlying38 hi0 hz0 hz1' hz2 rfl (by decide) (.slice ao (L an).length cap) (L an).length (rlCells (L an)) (by simp [Act.eval, Act.put]) (Hown.out _ (((Keeps.refl _ _).drew).alloc _)) ⟨wq.heap.size, 0, none⟩ 1 1 [.int .i64 2, .int .i64 head, .int .i64 who, .int .i64 an, .int .i64 b, .int .i64 via] (by simp [Act.eval, Act.put]) rfl (cells_new _ _ _) (by intro u hu; simp only [List.mem_cons, List.not_mem_nil, or_false] at hu; rcases hu with rfl | rfl | rfl | rfl | rfl | rfl <;> rfl) (by omega) (by unfold maxLen; omega) (by omega) ?_
    intro ao' cap' w2 hown hgrow hfp
    obtain ⟨e1, e3, e4, e5, HP⟩ := HG.out _ _ _ _ (((Keeps.refl _ _).drew).alloc _) hown hgrow hfp
    clear hown hgrow hfp
    refine hK.out _ _ ?s16X (fun hHeld => ?_)
    case s16X => exact e1
    clear hK K
    (try simp only [Act.put, List.setIfInBounds_toArray, List.set_cons_zero, List.set_cons_succ])
    refine wpAnyH_take_at (i := 17) (v := ?v17X) rfl (by kernel_rfl) (by kernel_rfl) (by kernel_rfl) (fun _ _ _ h => h) (Or.inl ⟨by rfl, ?y17X⟩) hHeld ?r17X
    case y17X => (intro w hSw; (try dsimp only at hSw); go_simp; first | done | with_reducible rfl)
    (try simp only [Act.put, List.setIfInBounds_toArray, List.set_cons_zero, List.set_cons_succ])
    refine wpAnyH_one (i := 18) (by kernel_rfl) rfl (fun K hK => ?_)
    go_simp
    refine hK.out _ _ ?s18X (fun hHeld => ?_)
    case s18X => exact e5
    clear hK K
    (try simp only [Act.put, List.setIfInBounds_toArray, List.set_cons_zero, List.set_cons_succ])
    refine wpAnyH_done (by kernel_rfl) ?_ _
    refine NoPanic.normal ?_
    go_wp2_with fail
    go_end0
    exact HP.out
  · go_simp
    refine hK.out _ _ ?s15Z (fun hHeld => ?_)
    case s15Z => exact HK2.out _
    clear hK K
    (try simp only [Act.put, List.setIfInBounds_toArray, List.set_cons_zero, List.set_cons_succ])
    refine wpAnyH_one (i := 13) (by kernel_rfl) rfl (fun K hK => ?_)
    go_simp
    refine hK.out _ _ ?s13Z (fun hHeld => ?_)
    case s13Z => exact hHeld
    clear hK K
    (try simp only [Act.put, List.setIfInBounds_toArray, List.set_cons_zero, List.set_cons_succ])
    refine wpAnyH_one (i := 16) (by kernel_rfl) rfl (fun K hK => ?_)
    refine step_append_tail rfl (.tmp 29) (.tmp 31) 38 rfl 29 i0 _ 6 48 Tryd.underlying38 hi0 hz0 hz1' hz2 rfl (by decide) (.slice ao (L an).length cap) (L an).length (rlCells (L an)) (by simp [Act.eval, Act.put]) (Hown.out _ (((Keeps.refl _ _).drew).alloc _)) ⟨wq.heap.size, 0, none⟩ 1 1 [.int .i64 2, .int .i64 head, .int .i64 who, .int .i64 an, .int .i64 b, .int .i64 via] (by simp [Act.eval, Act.put]) rfl (cells_new _ _ _) (by intro u hu; simp only [List.mem_cons, List.not_mem_nil, or_false] at hu; rcases hu with rfl | rfl | rfl | rfl | rfl | rfl <;> rfl) (by omega) (by unfold maxLen; omega) (by omega) ?_
    intro ao' cap' w2 hown hgrow hfp
    obtain ⟨e1, e3, e4, e5, HP⟩ := HG.out _ _ _ _ (((Keeps.refl _ _).drew).alloc _) hown hgrow hfp
    clear hown hgrow hfp
    refine hK.out _ _ ?s16Z (fun hHeld => ?_)
    case s16Z => exact e1
    clear hK K
    (try simp only [Act.put, List.setIfInBounds_toArray, List.set_cons_zero, List.set_cons_succ])
    refine wpAnyH_take_at (i := 17) (v := ?v17Z) rfl (by kernel_rfl) (by kernel_rfl) (by kernel_rfl) (fun _ _ _ h => h) (Or.inl ⟨by rfl, ?y17Z⟩) hHeld ?r17Z
    case y17Z => (intro w hSw; (try dsimp only at hSw); go_simp; first | done | with_reducible rfl)
    (try simp only [Act.put, List.setIfInBounds_toArray, List.set_cons_zero, List.set_cons_succ])
    refine wpAnyH_one (i := 18) (by kernel_rfl) rfl (fun K hK => ?_)
    go_simp
    refine hK.out _ _ ?s18Z (fun hHeld => ?_)
    case s18Z => exact e5
    clear hK K
    (try simp only [Act.put, List.setIfInBounds_toArray, List.set_cons_zero, List.set_cons_succ])
    refine wpAnyH_done (by kernel_rfl) ?_ _
    refine NoPanic.normal ?_
    go_wp2_with fail
    go_end0
    exact HP.out
set_option maxRecDepth 100000 in
set_option maxHeartbeats 3200000 in
theorem sput_link (h : SemAt W M vr L s vq) (hs : s.steps ≤ 10000000000000000) (hL : ∀ i, (L i).length ≤ 1000000) (head who b : Int) (an vn : Nat) (ha : an < M.N) (hvK : vn < M.K) :
    Calls Tryd.prog 44 #[.pointer (some ⟨M.mb, 0, none⟩), .agg #[.int .i64 3, .int .i64 head, .int .i64 who, .int .i64 an, .int .i64 b, .int .i64 vn]] W (PutPost M vr (addL (addL L (M.N + vn) ⟨3, head, who, an, b, vn⟩) an ⟨3, head, who, an, b, vn⟩) vq s.tick W) := by
  have hP64 := h.hP
  have hK64 := h.hK
  have hNle : M.N ≤ 64 * 64 := Nat.mul_le_mul hP64 hK64
  have hbx := PutAt.box h ⟨3, head, who, an, b, vn⟩
  obtain ⟨n0, n1, n2, n3⟩ := hbx.at_.mcells
  obtain ⟨o0, o1, o2, o3⟩ := hbx.at_.ocells
  have fo := hbx.at_.free.2 3
  obtain ⟨r0, r1, r2, r3, r4, r5⟩ := hbx.rule
  have htk := hbx.tick
  rw [show ((s.steps + 1 : Nat) : Int) = (s.steps : Int) + 1 from by omega] at htk
  have hwt : IntKind.i64.wrap ((s.steps : Int) + 1) = (s.steps : Int) + 1 := IntWalk.i64_in _ (by omega)
  unfold ruleObj at *
  simp only [] at n0 n1 n2 n3 o0 o1 o2 o3 fo r0 r1 r2 r3 r4 r5 htk
  clear hbx
  obtain ⟨i0, hi0, hz0, hz1', hz2⟩ := info_parts rlInfo
  have haI : (an : Int) < (M.N : Int) := by omega
  have hvI : (vn : Int) < (M.K : Int) := by omega
  go_enter Tryd.func44, Tryd.ntmps44
  go_upto_region 2 with fail
  generalize (W.alloc (.cells #[.int .i64 3, .int .i64 head, .int .i64 who, .int .i64 an, .int .i64 b, .int .i64 vn] 29)).setCell ⟨M.mo, 3, none⟩ (.int .i64 ((s.steps : Int) + 1)) = wq at htk ⊢
  clear n0 n1 n2 n3 o0 o1 o2 o3 fo r0 r1 r2 r3 r4 r5 h
  obtain ⟨p1, p2, p3, p4, p5, p6, p7, p8⟩ := htk.rd.cells
  simp only [] at p3 p4 p5 p6 p7 p8
  go_upto_region 7 with fail
  clear p1 p2 p3 p4 p5 p6 p7 p8
  have HL := Lib.hid hL
  go_cut [] (fun wx => ∃ vr', Hid (PutAt W M vr vr' (addL L (M.N + vn) ⟨3, head, who, an, b, vn⟩) vq W.heap.size ⟨3, head, who, an, b, vn⟩ s.tick vq wx))
  case first =>
    have HQ := Lib.hid htk
    obtain ⟨ao, cap, hv, hle, hmx⟩ := htk.at_.rowV (i := (M.N + vn)) (by omega)
    have hlen : (L (M.N + vn)).length ≤ 1000001 := Nat.le_succ_of_le (hL _)
    have hS0 : (fun w' => w'.cell? ⟨M.mb, 1, none⟩ = some (.slice (some ⟨M.bb, 0, none⟩) M.N M.N) ∧ w'.cell? ⟨M.mb, 2, none⟩ = some (.slice (some ⟨M.vb, 0, none⟩) M.K M.K) ∧ w'.cell? ⟨W.heap.size, 0, none⟩ = some (.int .i64 3) ∧ w'.cell? ⟨W.heap.size, 1, none⟩ = some (.int .i64 head) ∧ w'.cell? ⟨W.heap.size, 2, none⟩ = some (.int .i64 who) ∧ w'.cell? ⟨W.heap.size, 3, none⟩ = some (.int .i64 an) ∧ w'.cell? ⟨W.heap.size, 4, none⟩ = some (.int .i64 b) ∧ w'.cell? ⟨W.heap.size, 5, none⟩ = some (.int .i64 vn)) wq.drew := (htk.quiet ((Keeps.refl _ _).drew)).rd.cells
    have HK2 : Hid (∀ o, (fun w' => w'.cell? ⟨M.mb, 1, none⟩ = some (.slice (some ⟨M.bb, 0, none⟩) M.N M.N) ∧ w'.cell? ⟨M.mb, 2, none⟩ = some (.slice (some ⟨M.vb, 0, none⟩) M.K M.K) ∧ w'.cell? ⟨W.heap.size, 0, none⟩ = some (.int .i64 3) ∧ w'.cell? ⟨W.heap.size, 1, none⟩ = some (.int .i64 head) ∧ w'.cell? ⟨W.heap.size, 2, none⟩ = some (.int .i64 who) ∧ w'.cell? ⟨W.heap.size, 3, none⟩ = some (.int .i64 an) ∧ w'.cell? ⟨W.heap.size, 4, none⟩ = some (.int .i64 b) ∧ w'.cell? ⟨W.heap.size, 5, none⟩ = some (.int .i64 vn)) (wq.drew.alloc o)) := fun o => (HQ.out.quiet (((Keeps.refl _ _).drew).alloc o)).rd.cells
    have pba : wq.cell? ⟨M.vb, vn, none⟩ = some (.slice ao (L (M.N + vn)).length cap) := by rw [← hv]; exact htk.rd.vc vn hvK
    have pfa : wq.frozen? ⟨M.vb, vn, none⟩ = false := htk.rd.vf vn
    have lb : M.vb < wq.heap.size := lt_of_cell pba
    have Hown : Hid (∀ W', Keeps (fun _ => False) wq W' → TailRow W' 29 6 (.slice ao (L (M.N + vn)).length cap) (L (M.N + vn)).length (rlCells (L (M.N + vn)))) := fun W' hk => by
      have := (HQ.out.at_.keeps hk).rows ((M.N + vn)) (by omega)
      rw [hv] at this
      exact this
    have HG : Hid (∀ W1 W2 ao' cap', Keeps (fun _ => False) wq W1 → TailRow W2 29 6 (.slice ao' ((L (M.N + vn)).length + 1) cap') ((L (M.N + vn)).length + 1) (rlCells (L (M.N + vn)) ++ [.int .i64 3, .int .i64 head, .int .i64 who, .int .i64 an, .int .i64 b, .int .i64 vn]) → W1.grownBy W2 (Value.slice ao (L (M.N + vn)).length cap).ownBlock → (∀ k, (Value.slice ao' ((L (M.N + vn)).length + 1) cap').ownBlock = some k → (Value.slice ao (L (M.N + vn)).length cap).ownBlock = some k ∨ W1.heap.size ≤ k) →
        (fun w' => w'.cell? ⟨M.mb, 1, none⟩ = some (.slice (some ⟨M.bb, 0, none⟩) M.N M.N) ∧ w'.cell? ⟨M.mb, 2, none⟩ = some (.slice (some ⟨M.vb, 0, none⟩) M.K M.K) ∧ w'.cell? ⟨W.heap.size, 0, none⟩ = some (.int .i64 3) ∧ w'.cell? ⟨W.heap.size, 1, none⟩ = some (.int .i64 head) ∧ w'.cell? ⟨W.heap.size, 2, none⟩ = some (.int .i64 who) ∧ w'.cell? ⟨W.heap.size, 3, none⟩ = some (.int .i64 an) ∧ w'.cell? ⟨W.heap.size, 4, none⟩ = some (.int .i64 b) ∧ w'.cell? ⟨W.heap.size, 5, none⟩ = some (.int .i64 vn)) W2 ∧ W2.cell? ⟨M.vb, vn, none⟩ = some (.slice ao (L (M.N + vn)).length cap) ∧ W2.frozen? ⟨M.vb, vn, none⟩ = false ∧ (fun w' => w'.cell? ⟨M.mb, 1, none⟩ = some (.slice (some ⟨M.bb, 0, none⟩) M.N M.N) ∧ w'.cell? ⟨M.mb, 2, none⟩ = some (.slice (some ⟨M.vb, 0, none⟩) M.K M.K) ∧ w'.cell? ⟨W.heap.size, 0, none⟩ = some (.int .i64 3) ∧ w'.cell? ⟨W.heap.size, 1, none⟩ = some (.int .i64 head) ∧ w'.cell? ⟨W.heap.size, 2, none⟩ = some (.int .i64 who) ∧ w'.cell? ⟨W.heap.size, 3, none⟩ = some (.int .i64 an) ∧ w'.cell? ⟨W.heap.size, 4, none⟩ = some (.int .i64 b) ∧ w'.cell? ⟨W.heap.size, 5, none⟩ = some (.int .i64 vn)) (W2.setCell ⟨M.vb, vn, none⟩ (.slice ao' ((L (M.N + vn)).length + 1) cap')) ∧ (∃ vr', Hid (PutAt W M vr vr' (addL L (M.N + vn) ⟨3, head, who, an, b, vn⟩) vq W.heap.size ⟨3, head, who, an, b, vn⟩ s.tick vq (W2.setCell ⟨M.vb, vn, none⟩ (.slice ao' ((L (M.N + vn)).length + 1) cap'))))) := fun W1 W2 ao' cap' k1 ho hgr hfp => by
      rw [← hv] at hgr hfp
      obtain ⟨a1, a2⟩ := HQ.out.grow (g := (M.N + vn)) (by omega) k1 ho hgr hfp
      have a3 := a2 ⟨M.vb, vn, none⟩ (.inr ⟨Nat.le_add_right _ _, by rw [Nat.add_sub_cancel_left]⟩)
      exact ⟨a1.cells, by rw [← hv]; exact a1.vc vn hvK, a1.vf vn, a3.out.rd.cells, ⟨_, a3⟩⟩
    clear htk hv
    refine wp_region_noPanic ?_
    refine wp_region_held_drew (S := fun w' => w'.cell? ⟨M.mb, 1, none⟩ = some (.slice (some ⟨M.bb, 0, none⟩) M.N M.N) ∧ w'.cell? ⟨M.mb, 2, none⟩ = some (.slice (some ⟨M.vb, 0, none⟩) M.K M.K) ∧ w'.cell? ⟨W.heap.size, 0, none⟩ = some (.int .i64 3) ∧ w'.cell? ⟨W.heap.size, 1, none⟩ = some (.int .i64 head) ∧ w'.cell? ⟨W.heap.size, 2, none⟩ = some (.int .i64 who) ∧ w'.cell? ⟨W.heap.size, 3, none⟩ = some (.int .i64 an) ∧ w'.cell? ⟨W.heap.size, 4, none⟩ = some (.int .i64 b) ∧ w'.cell? ⟨W.heap.size, 5, none⟩ = some (.int .i64 vn)) (by kernel_rfl) hS0 (fun hHeld => ?_)
    refine wpAnyH_take_at (i := 0) (v := ?v0P) rfl (by kernel_rfl) (by kernel_rfl) (by kernel_rfl) (fun _ _ _ h => h) (Or.inl ⟨by rfl, ?y0P⟩) hHeld ?r0P
    case y0P => (intro w hSw; (try dsimp only at hSw); go_simp; first | done | with_reducible rfl)
    (try simp only [Act.put, List.setIfInBounds_toArray, List.set_cons_zero, List.set_cons_succ])
    refine wpAnyH_take_at (i := 1) (v := ?v1P) rfl (by kernel_rfl) (by kernel_rfl) (by kernel_rfl) (fun _ _ _ h => h) (Or.inl ⟨by rfl, ?y1P⟩) hHeld ?r1P
    case y1P => (intro w hSw; (try dsimp only at hSw); go_simp; first | done | with_reducible rfl)
    (try simp only [Act.put, List.setIfInBounds_toArray, List.set_cons_zero, List.set_cons_succ])
    refine wpAnyH_take_at (i := 2) (v := ?v2P) rfl (by kernel_rfl) (by kernel_rfl) (by kernel_rfl) (fun _ _ _ h => h) (Or.inl ⟨by rfl, ?y2P⟩) hHeld ?r2P
    case y2P => (intro w hSw; (try dsimp only at hSw); go_simp; first | done | with_reducible rfl)
    (try simp only [Act.put, List.setIfInBounds_toArray, List.set_cons_zero, List.set_cons_succ])
    refine wpAnyH_take_at (i := 3) (v := ?v3P) rfl (by kernel_rfl) (by kernel_rfl) (by kernel_rfl) (fun _ _ _ h => h) (Or.inl ⟨by rfl, ?y3P⟩) hHeld ?r3P
    case y3P => (intro w hSw; (try dsimp only at hSw); go_simp; first | done | with_reducible rfl)
    (try simp only [Act.put, List.setIfInBounds_toArray, List.set_cons_zero, List.set_cons_succ])
    refine wpAnyH_take_at (i := 4) (v := ?v4P) rfl (by kernel_rfl) (by kernel_rfl) (by kernel_rfl) (fun _ _ _ h => h) (Or.inl ⟨by rfl, ?y4P⟩) hHeld ?r4P
    case y4P => (intro w hSw; (try dsimp only at hSw); go_simp; first | done | with_reducible rfl)
    (try simp only [Act.put, List.setIfInBounds_toArray, List.set_cons_zero, List.set_cons_succ])
    refine wpAnyH_take_at (i := 5) (v := ?v5P) rfl (by kernel_rfl) (by kernel_rfl) (by kernel_rfl) (fun _ _ _ h => h) (Or.inl ⟨by rfl, ?y5P⟩) hHeld ?r5P
    case y5P => (intro w hSw; (try dsimp only at hSw); go_simp; first | done | with_reducible rfl)
    (try simp only [Act.put, List.setIfInBounds_toArray, List.set_cons_zero, List.set_cons_succ])
    refine wpAnyH_take_at (i := 6) (v := ?v6P) rfl (by kernel_rfl) (by kernel_rfl) (by kernel_rfl) (fun _ _ _ h => h) (Or.inl ⟨by rfl, ?y6P⟩) hHeld ?r6P
    case y6P => (intro w hSw; (try dsimp only at hSw); go_simp; first | done | with_reducible rfl)
    (try simp only [Act.put, List.setIfInBounds_toArray, List.set_cons_zero, List.set_cons_succ])
    refine wpAnyH_take_at (i := 7) (v := ?v7P) rfl (by kernel_rfl) (by kernel_rfl) (by kernel_rfl) (fun _ _ _ h => h) (Or.inl ⟨by rfl, ?y7P⟩) hHeld ?r7P
    case y7P => (intro w hSw; (try dsimp only at hSw); go_simp; first | done | with_reducible rfl)
    (try simp only [Act.put, List.setIfInBounds_toArray, List.set_cons_zero, List.set_cons_succ])
    refine wpAnyH_take_at (i := 8) (v := ?v8P) rfl (by kernel_rfl) (by kernel_rfl) (by kernel_rfl) (fun _ _ _ h => h) (Or.inl ⟨by rfl, ?y8P⟩) hHeld ?r8P
    case y8P => (intro w hSw; (try dsimp only at hSw); go_simp; first | done | with_reducible rfl)
    (try simp only [Act.put, List.setIfInBounds_toArray, List.set_cons_zero, List.set_cons_succ])
    refine wpAnyH_take_at (i := 9) (v := ?v9P) rfl (by kernel_rfl) (by kernel_rfl) (by kernel_rfl) (fun _ _ _ h => h) (Or.inl ⟨by rfl, ?y9P⟩) hHeld ?r9P
    case y9P => (intro w hSw; (try dsimp only at hSw); go_simp; first | done | with_reducible rfl)
    (try simp only [Act.put, List.setIfInBounds_toArray, List.set_cons_zero, List.set_cons_succ])
    refine wpAnyH_take_at (i := 10) (v := ?v10P) rfl (by kernel_rfl) (by kernel_rfl) (by kernel_rfl) (fun _ _ _ h => h) (Or.inl ⟨by rfl, ?y10P⟩) hHeld ?r10P
    case y10P => (intro w hSw; (try dsimp only at hSw); go_simp; first | done | with_reducible rfl)
    (try simp only [Act.put, List.setIfInBounds_toArray, List.set_cons_zero, List.set_cons_succ])
    refine wpAnyH_take_at (i := 11) (v := ?v11P) rfl (by kernel_rfl) (by kernel_rfl) (by kernel_rfl) (fun _ _ _ h => h) (Or.inl ⟨by rfl, ?y11P⟩) hHeld ?r11P
    case y11P => (intro w hSw; (try dsimp only at hSw); go_simp; first | done | with_reducible rfl)
    (try simp only [Act.put, List.setIfInBounds_toArray, List.set_cons_zero, List.set_cons_succ])
    refine wpAnyH_take_at (i := 12) (v := ?v12P) rfl (by kernel_rfl) (by kernel_rfl) (by kernel_rfl) (fun _ _ _ h => h) (Or.inl ⟨by rfl, ?y12P⟩) hHeld ?r12P
    case y12P => (intro w hSw; (try dsimp only at hSw); go_simp; first | done | with_reducible rfl)
    (try simp only [Act.put, List.setIfInBounds_toArray, List.set_cons_zero, List.set_cons_succ])
    refine wpAnyH_take_at (i := 14) (v := ?v14P) rfl (by kernel_rfl) (by kernel_rfl) (by kernel_rfl) (fun _ _ _ h => h) (Or.inl ⟨by rfl, ?y14P⟩) hHeld ?r14P
    case y14P => (intro w hSw; (try dsimp only at hSw); go_simp; first | done | with_reducible rfl)
    (try simp only [Act.put, List.setIfInBounds_toArray, List.set_cons_zero, List.set_cons_succ])
    refine wpAnyH_ready (rs := [13, 15]) (by kernel_rfl) (by simp) (AllReadyH.cons (get_at rfl) (fun K hK => ?_) (AllReadyH.cons (get_at rfl) (fun K hK => ?_) AllReadyH.nil))
    · go_simp
      refine hK.out _ _ ?s13PX (fun hHeld => ?_)
      case s13PX => exact hHeld
      clear hK K
      (try simp only [Act.put, List.setIfInBounds_toArray, List.set_cons_zero, List.set_cons_succ])
      refine wpAnyH_one (i := 15) (by kernel_rfl) rfl (fun K hK => ?_)
      go_simp
      refine hK.out _ _ ?s15PX (fun hHeld => ?_)
      case s15PX => exact HK2.out _
      clear hK K
      (try simp only [Act.put, List.setIfInBounds_toArray, List.set_cons_zero, List.set_cons_succ])
      refine wpAnyH_one (i := 16) (by kernel_rfl) rfl (fun K hK => ?_)
      refine step_append_tail rfl (.tmp 57) (.tmp 59) 38 rfl 29 i0 _ 6 48 Tryd.underlying38 hi0 hz0 hz1' hz2 rfl (by decide) (.slice ao (L (M.N + vn)).length cap) (L (M.N + vn)).length (rlCells (L (M.N + vn))) (by simp [Act.eval, Act.put]) (Hown.out _ (((Keeps.refl _ _).drew).alloc _)) ⟨wq.heap.size, 0, none⟩ 1 1 [.int .i64 3, .int .i64 head, .int .i64 who, .int .i64 an, .int .i64 b, .int .i64 vn] (by simp [Act.eval, Act.put]) rfl (cells_new _ _ _) (by intro u hu; simp only [List.mem_cons, List.not_mem_nil, or_false] at hu; rcases hu with rfl | rfl | rfl | rfl | rfl | rfl <;> rfl) (by omega) (by unfold maxLen; omega) (by omega) ?_
      intro ao' cap' w2 hown hgrow hfp
      obtain ⟨e1, e3, e4, e5, HP⟩ := HG.out _ _ _ _ (((Keeps.refl _ _).drew).alloc _) hown hgrow hfp
      clear hown hgrow hfp
      refine hK.out _ _ ?s16PX (fun hHeld => ?_)
      case s16PX => exact e1
      clear hK K
      (try simp only [Act.put, List.setIfInBounds_toArray, List.set_cons_zero, List.set_cons_succ])
      refine wpAnyH_take_at (i := 17) (v := ?v17PX) rfl (by kernel_rfl) (by kernel_rfl) (by kernel_rfl) (fun _ _ _ h => h) (Or.inl ⟨by rfl, ?y17PX⟩) hHeld ?r17PX
      case y17PX => (intro w hSw; (try dsimp only at hSw); go_simp; first | done | with_reducible rfl)
      (try simp only [Act.put, List.setIfInBounds_toArray, List.set_cons_zero, List.set_cons_succ])
      refine wpAnyH_one (i := 18) (by kernel_rfl) rfl (fun K hK => ?_)
      go_simp
      refine hK.out _ _ ?s18PX (fun hHeld => ?_)
      case s18PX => exact e5
      clear hK K
      (try simp only [Act.put, List.setIfInBounds_toArray, List.set_cons_zero, List.set_cons_succ])
      refine wpAnyH_done (by kernel_rfl) ?_ _
      refine NoPanic.normal ?_
      go_wp2_with fail
      go_meet
      exact HP
    · go_simp
      refine hK.out _ _ ?s15PZ (fun hHeld => ?_)
      case s15PZ => exact HK2.out _
      clear hK K
      (try simp only [Act.put, List.setIfInBounds_toArray, List.set_cons_zero, List.set_cons_succ])
      refine wpAnyH_one (i := 13) (by kernel_rfl) rfl (fun K hK => ?_)
      go_simp
      refine hK.out _ _ ?s13PZ (fun hHeld => ?_)
      case s13PZ => exact hHeld
      clear hK K
      (try simp only [Act.put, List.setIfInBounds_toArray, List.set_cons_zero, List.set_cons_succ])
      refine wpAnyH_one (i := 16) (by kernel_rfl) rfl (fun K hK => ?_)
      refine step_append_tail rfl (.tmp 57) (.tmp 59) 38 rfl 29 i0 _ 6 48 Tryd.underlying38 hi0 hz0 hz1' hz2 rfl (by decide) (.slice ao (L (M.N + vn)).length cap) (L (M.N + vn)).length (rlCells (L (M.N + vn))) (by simp [Act.eval, Act.put]) (Hown.out _ (((Keeps.refl _ _).drew).alloc _)) ⟨wq.heap.size, 0, none⟩ 1 1 [.int .i64 3, .int .i64 head, .int .i64 who, .int .i64 an, .int .i64 b, .int .i64 vn] (by simp [Act.eval, Act.put]) rfl (cells_new _ _ _) (by intro u hu; simp only [List.mem_cons, List.not_mem_nil, or_false] at hu; rcases hu with rfl | rfl | rfl | rfl | rfl | rfl <;> rfl) (by omega) (by unfold maxLen; omega) (by omega) ?_
      intro ao' cap' w2 hown hgrow hfp
      obtain ⟨e1, e3, e4, e5, HP⟩ := HG.out _ _ _ _ (((Keeps.refl _ _).drew).alloc _) hown hgrow hfp
      clear hown hgrow hfp
      refine hK.out _ _ ?s16PZ (fun hHeld => ?_)
      case s16PZ => exact e1
      clear hK K
      (try simp only [Act.put, List.setIfInBounds_toArray, List.set_cons_zero, List.set_cons_succ])
      refine wpAnyH_take_at (i := 17) (v := ?v17PZ) rfl (by kernel_rfl) (by kernel_rfl) (by kernel_rfl) (fun _ _ _ h => h) (Or.inl ⟨by rfl, ?y17PZ⟩) hHeld ?r17PZ
      case y17PZ => (intro w hSw; (try dsimp only at hSw); go_simp; first | done | with_reducible rfl)
      (try simp only [Act.put, List.setIfInBounds_toArray, List.set_cons_zero, List.set_cons_succ])
      refine wpAnyH_one (i := 18) (by kernel_rfl) rfl (fun K hK => ?_)
      go_simp
      refine hK.out _ _ ?s18PZ (fun hHeld => ?_)
      case s18PZ => exact e5
      clear hK K
      (try simp only [Act.put, List.setIfInBounds_toArray, List.set_cons_zero, List.set_cons_succ])
      refine wpAnyH_done (by kernel_rfl) ?_ _
      refine NoPanic.normal ?_
      go_wp2_with fail
      go_meet
      exact HP
  case rest =>
    obtain ⟨vr1, hq1⟩ := hcut
    have htk := hq1.out
    clear hq1
    have p1 : True := trivial
    clear p1
    have HQ := Lib.hid htk
    obtain ⟨ao, cap, hv, hle, hmx⟩ := htk.at_.rowV (i := an) (by omega)
    have hlen : ((addL L (M.N + vn) ⟨3, head, who, an, b, vn⟩) an).length ≤ 1000001 := by have := HL.out an; unfold addL; split <;> (try rw [List.length_append]; show _ + 1 ≤ _) <;> omega
    have hS0 : (fun w' => w'.cell? ⟨M.mb, 1, none⟩ = some (.slice (some ⟨M.bb, 0, none⟩) M.N M.N) ∧ w'.cell? ⟨M.mb, 2, none⟩ = some (.slice (some ⟨M.vb, 0, none⟩) M.K M.K) ∧ w'.cell? ⟨W.heap.size, 0, none⟩ = some (.int .i64 3) ∧ w'.cell? ⟨W.heap.size, 1, none⟩ = some (.int .i64 head) ∧ w'.cell? ⟨W.heap.size, 2, none⟩ = some (.int .i64 who) ∧ w'.cell? ⟨W.heap.size, 3, none⟩ = some (.int .i64 an) ∧ w'.cell? ⟨W.heap.size, 4, none⟩ = some (.int .i64 b) ∧ w'.cell? ⟨W.heap.size, 5, none⟩ = some (.int .i64 vn)) wc.drew := (htk.quiet ((Keeps.refl _ _).drew)).rd.cells
    have HK2 : Hid (∀ o, (fun w' => w'.cell? ⟨M.mb, 1, none⟩ = some (.slice (some ⟨M.bb, 0, none⟩) M.N M.N) ∧ w'.cell? ⟨M.mb, 2, none⟩ = some (.slice (some ⟨M.vb, 0, none⟩) M.K M.K) ∧ w'.cell? ⟨W.heap.size, 0, none⟩ = some (.int .i64 3) ∧ w'.cell? ⟨W.heap.size, 1, none⟩ = some (.int .i64 head) ∧ w'.cell? ⟨W.heap.size, 2, none⟩ = some (.int .i64 who) ∧ w'.cell? ⟨W.heap.size, 3, none⟩ = some (.int .i64 an) ∧ w'.cell? ⟨W.heap.size, 4, none⟩ = some (.int .i64 b) ∧ w'.cell? ⟨W.heap.size, 5, none⟩ = some (.int .i64 vn)) (wc.drew.alloc o)) := fun o => (HQ.out.quiet (((Keeps.refl _ _).drew).alloc o)).rd.cells
    have pba : wc.cell? ⟨M.bb, an, none⟩ = some (.slice ao ((addL L (M.N + vn) ⟨3, head, who, an, b, vn⟩) an).length cap) := by rw [← hv]; exact htk.rd.bc an ha
    have pfa : wc.frozen? ⟨M.bb, an, none⟩ = false := htk.rd.bf an
    have lb : M.bb < wc.heap.size := lt_of_cell pba
    have Hown : Hid (∀ W', Keeps (fun _ => False) wc W' → TailRow W' 29 6 (.slice ao ((addL L (M.N + vn) ⟨3, head, who, an, b, vn⟩) an).length cap) ((addL L (M.N + vn) ⟨3, head, who, an, b, vn⟩) an).length (rlCells ((addL L (M.N + vn) ⟨3, head, who, an, b, vn⟩) an))) := fun W' hk => by
      have := (HQ.out.at_.keeps hk).rows (an) (by omega)
      rw [hv] at this
      exact this
    have HG : Hid (∀ W1 W2 ao' cap', Keeps (fun _ => False) wc W1 → TailRow W2 29 6 (.slice ao' (((addL L (M.N + vn) ⟨3, head, who, an, b, vn⟩) an).length + 1) cap') (((addL L (M.N + vn) ⟨3, head, who, an, b, vn⟩) an).length + 1) (rlCells ((addL L (M.N + vn) ⟨3, head, who, an, b, vn⟩) an) ++ [.int .i64 3, .int .i64 head, .int .i64 who, .int .i64 an, .int .i64 b, .int .i64 vn]) → W1.grownBy W2 (Value.slice ao ((addL L (M.N + vn) ⟨3, head, who, an, b, vn⟩) an).length cap).ownBlock → (∀ k, (Value.slice ao' (((addL L (M.N + vn) ⟨3, head, who, an, b, vn⟩) an).length + 1) cap').ownBlock = some k → (Value.slice ao ((addL L (M.N + vn) ⟨3, head, who, an, b, vn⟩) an).length cap).ownBlock = some k ∨ W1.heap.size ≤ k) →
        (fun w' => w'.cell? ⟨M.mb, 1, none⟩ = some (.slice (some ⟨M.bb, 0, none⟩) M.N M.N) ∧ w'.cell? ⟨M.mb, 2, none⟩ = some (.slice (some ⟨M.vb, 0, none⟩) M.K M.K) ∧ w'.cell? ⟨W.heap.size, 0, none⟩ = some (.int .i64 3) ∧ w'.cell? ⟨W.heap.size, 1, none⟩ = some (.int .i64 head) ∧ w'.cell? ⟨W.heap.size, 2, none⟩ = some (.int .i64 who) ∧ w'.cell? ⟨W.heap.size, 3, none⟩ = some (.int .i64 an) ∧ w'.cell? ⟨W.heap.size, 4, none⟩ = some (.int .i64 b) ∧ w'.cell? ⟨W.heap.size, 5, none⟩ = some (.int .i64 vn)) W2 ∧ W2.cell? ⟨M.bb, an, none⟩ = some (.slice ao ((addL L (M.N + vn) ⟨3, head, who, an, b, vn⟩) an).length cap) ∧ W2.frozen? ⟨M.bb, an, none⟩ = false ∧ (fun w' => w'.cell? ⟨M.mb, 1, none⟩ = some (.slice (some ⟨M.bb, 0, none⟩) M.N M.N) ∧ w'.cell? ⟨M.mb, 2, none⟩ = some (.slice (some ⟨M.vb, 0, none⟩) M.K M.K) ∧ w'.cell? ⟨W.heap.size, 0, none⟩ = some (.int .i64 3) ∧ w'.cell? ⟨W.heap.size, 1, none⟩ = some (.int .i64 head) ∧ w'.cell? ⟨W.heap.size, 2, none⟩ = some (.int .i64 who) ∧ w'.cell? ⟨W.heap.size, 3, none⟩ = some (.int .i64 an) ∧ w'.cell? ⟨W.heap.size, 4, none⟩ = some (.int .i64 b) ∧ w'.cell? ⟨W.heap.size, 5, none⟩ = some (.int .i64 vn)) (W2.setCell ⟨M.bb, an, none⟩ (.slice ao' (((addL L (M.N + vn) ⟨3, head, who, an, b, vn⟩) an).length + 1) cap')) ∧ Hid (PutPost M vr (addL (addL L (M.N + vn) ⟨3, head, who, an, b, vn⟩) an ⟨3, head, who, an, b, vn⟩) vq s.tick W (.returned (.tuple #[])) (W2.setCell ⟨M.bb, an, none⟩ (.slice ao' (((addL L (M.N + vn) ⟨3, head, who, an, b, vn⟩) an).length + 1) cap')))) := fun W1 W2 ao' cap' k1 ho hgr hfp => by
      rw [← hv] at hgr hfp
      obtain ⟨a1, a2⟩ := HQ.out.grow (g := an) (by omega) k1 ho hgr hfp
      have a3 := a2 ⟨M.bb, an, none⟩ (.inl ⟨ha, rfl⟩)
      exact ⟨a1.cells, by rw [← hv]; exact a1.bc an ha, a1.bf an, a3.out.rd.cells, a3.out.post rfl⟩
    clear htk hv
    go_upto_region 8 with fail
    refine wp_region_noPanic ?_
    refine wp_region_held_drew (S := fun w' => w'.cell? ⟨M.mb, 1, none⟩ = some (.slice (some ⟨M.bb, 0, none⟩) M.N M.N) ∧ w'.cell? ⟨M.mb, 2, none⟩ = some (.slice (some ⟨M.vb, 0, none⟩) M.K M.K) ∧ w'.cell? ⟨W.heap.size, 0, none⟩ = some (.int .i64 3) ∧ w'.cell? ⟨W.heap.size, 1, none⟩ = some (.int .i64 head) ∧ w'.cell? ⟨W.heap.size, 2, none⟩ = some (.int .i64 who) ∧ w'.cell? ⟨W.heap.size, 3, none⟩ = some (.int .i64 an) ∧ w'.cell? ⟨W.heap.size, 4, none⟩ = some (.int .i64 b) ∧ w'.cell? ⟨W.heap.size, 5, none⟩ = some (.int .i64 vn)) (by kernel_rfl) hS0 (fun hHeld => ?_)
    refine wpAnyH_take_at (i := 0) (v := ?v0Q) rfl (by kernel_rfl) (by kernel_rfl) (by kernel_rfl) (fun _ _ _ h => h) (Or.inl ⟨by rfl, ?y0Q⟩) hHeld ?r0Q
    case y0Q => (intro w hSw; (try dsimp only at hSw); go_simp; first | done | with_reducible rfl)
    (try simp only [Act.put, List.setIfInBounds_toArray, List.set_cons_zero, List.set_cons_succ])
    refine wpAnyH_take_at (i := 1) (v := ?v1Q) rfl (by kernel_rfl) (by kernel_rfl) (by kernel_rfl) (fun _ _ _ h => h) (Or.inl ⟨by rfl, ?y1Q⟩) hHeld ?r1Q
    case y1Q => (intro w hSw; (try dsimp only at hSw); go_simp; first | done | with_reducible rfl)
    (try simp only [Act.put, List.setIfInBounds_toArray, List.set_cons_zero, List.set_cons_succ])
    refine wpAnyH_take_at (i := 2) (v := ?v2Q) rfl (by kernel_rfl) (by kernel_rfl) (by kernel_rfl) (fun _ _ _ h => h) (Or.inl ⟨by rfl, ?y2Q⟩) hHeld ?r2Q
    case y2Q => (intro w hSw; (try dsimp only at hSw); go_simp; first | done | with_reducible rfl)
    (try simp only [Act.put, List.setIfInBounds_toArray, List.set_cons_zero, List.set_cons_succ])
    refine wpAnyH_take_at (i := 3) (v := ?v3Q) rfl (by kernel_rfl) (by kernel_rfl) (by kernel_rfl) (fun _ _ _ h => h) (Or.inl ⟨by rfl, ?y3Q⟩) hHeld ?r3Q
    case y3Q => (intro w hSw; (try dsimp only at hSw); go_simp; first | done | with_reducible rfl)
    (try simp only [Act.put, List.setIfInBounds_toArray, List.set_cons_zero, List.set_cons_succ])
    refine wpAnyH_take_at (i := 4) (v := ?v4Q) rfl (by kernel_rfl) (by kernel_rfl) (by kernel_rfl) (fun _ _ _ h => h) (Or.inl ⟨by rfl, ?y4Q⟩) hHeld ?r4Q
    case y4Q => (intro w hSw; (try dsimp only at hSw); go_simp; first | done | with_reducible rfl)
    (try simp only [Act.put, List.setIfInBounds_toArray, List.set_cons_zero, List.set_cons_succ])
    refine wpAnyH_take_at (i := 5) (v := ?v5Q) rfl (by kernel_rfl) (by kernel_rfl) (by kernel_rfl) (fun _ _ _ h => h) (Or.inl ⟨by rfl, ?y5Q⟩) hHeld ?r5Q
    case y5Q => (intro w hSw; (try dsimp only at hSw); go_simp; first | done | with_reducible rfl)
    (try simp only [Act.put, List.setIfInBounds_toArray, List.set_cons_zero, List.set_cons_succ])
    refine wpAnyH_take_at (i := 6) (v := ?v6Q) rfl (by kernel_rfl) (by kernel_rfl) (by kernel_rfl) (fun _ _ _ h => h) (Or.inl ⟨by rfl, ?y6Q⟩) hHeld ?r6Q
    case y6Q => (intro w hSw; (try dsimp only at hSw); go_simp; first | done | with_reducible rfl)
    (try simp only [Act.put, List.setIfInBounds_toArray, List.set_cons_zero, List.set_cons_succ])
    refine wpAnyH_take_at (i := 7) (v := ?v7Q) rfl (by kernel_rfl) (by kernel_rfl) (by kernel_rfl) (fun _ _ _ h => h) (Or.inl ⟨by rfl, ?y7Q⟩) hHeld ?r7Q
    case y7Q => (intro w hSw; (try dsimp only at hSw); go_simp; first | done | with_reducible rfl)
    (try simp only [Act.put, List.setIfInBounds_toArray, List.set_cons_zero, List.set_cons_succ])
    refine wpAnyH_take_at (i := 8) (v := ?v8Q) rfl (by kernel_rfl) (by kernel_rfl) (by kernel_rfl) (fun _ _ _ h => h) (Or.inl ⟨by rfl, ?y8Q⟩) hHeld ?r8Q
    case y8Q => (intro w hSw; (try dsimp only at hSw); go_simp; first | done | with_reducible rfl)
    (try simp only [Act.put, List.setIfInBounds_toArray, List.set_cons_zero, List.set_cons_succ])
    refine wpAnyH_take_at (i := 9) (v := ?v9Q) rfl (by kernel_rfl) (by kernel_rfl) (by kernel_rfl) (fun _ _ _ h => h) (Or.inl ⟨by rfl, ?y9Q⟩) hHeld ?r9Q
    case y9Q => (intro w hSw; (try dsimp only at hSw); go_simp; first | done | with_reducible rfl)
    (try simp only [Act.put, List.setIfInBounds_toArray, List.set_cons_zero, List.set_cons_succ])
    refine wpAnyH_take_at (i := 10) (v := ?v10Q) rfl (by kernel_rfl) (by kernel_rfl) (by kernel_rfl) (fun _ _ _ h => h) (Or.inl ⟨by rfl, ?y10Q⟩) hHeld ?r10Q
    case y10Q => (intro w hSw; (try dsimp only at hSw); go_simp; first | done | with_reducible rfl)
    (try simp only [Act.put, List.setIfInBounds_toArray, List.set_cons_zero, List.set_cons_succ])
    refine wpAnyH_take_at (i := 11) (v := ?v11Q) rfl (by kernel_rfl) (by kernel_rfl) (by kernel_rfl) (fun _ _ _ h => h) (Or.inl ⟨by rfl, ?y11Q⟩) hHeld ?r11Q
    case y11Q => (intro w hSw; (try dsimp only at hSw); go_simp; first | done | with_reducible rfl)
    (try simp only [Act.put, List.setIfInBounds_toArray, List.set_cons_zero, List.set_cons_succ])
    refine wpAnyH_take_at (i := 12) (v := ?v12Q) rfl (by kernel_rfl) (by kernel_rfl) (by kernel_rfl) (fun _ _ _ h => h) (Or.inl ⟨by rfl, ?y12Q⟩) hHeld ?r12Q
    case y12Q => (intro w hSw; (try dsimp only at hSw); go_simp; first | done | with_reducible rfl)
    (try simp only [Act.put, List.setIfInBounds_toArray, List.set_cons_zero, List.set_cons_succ])
    refine wpAnyH_take_at (i := 14) (v := ?v14Q) rfl (by kernel_rfl) (by kernel_rfl) (by kernel_rfl) (fun _ _ _ h => h) (Or.inl ⟨by rfl, ?y14Q⟩) hHeld ?r14Q
    case y14Q => (intro w hSw; (try dsimp only at hSw); go_simp; first | done | with_reducible rfl)
    (try simp only [Act.put, List.setIfInBounds_toArray, List.set_cons_zero, List.set_cons_succ])
    refine wpAnyH_ready (rs := [13, 15]) (by kernel_rfl) (by simp) (AllReadyH.cons (get_at rfl) (fun K hK => ?_) (AllReadyH.cons (get_at rfl) (fun K hK => ?_) AllReadyH.nil))
    · go_simp
      refine hK.out _ _ ?s13QX (fun hHeld => ?_)
      case s13QX => exact hHeld
      clear hK K
      (try simp only [Act.put, List.setIfInBounds_toArray, List.set_cons_zero, List.set_cons_succ])
      refine wpAnyH_one (i := 15) (by kernel_rfl) rfl (fun K hK => ?_)
      go_simp
      refine hK.out _ _ ?s15QX (fun hHeld => ?_)
      case s15QX => exact HK2.out _
      clear hK K
      (try simp only [Act.put, List.setIfInBounds_toArray, List.set_cons_zero, List.set_cons_succ])
      refine wpAnyH_one (i := 16) (by kernel_rfl) rfl (fun K hK => ?_)
      refine step_append_tail rfl (.tmp 75) (.tmp 77) 38 rfl 29 i0 _ 6 48 Tryd.underlying38 hi0 hz0 hz1' hz2 rfl (by decide) (.slice ao ((addL L (M.N + vn) ⟨3, head, who, an, b, vn⟩) an).length cap) ((addL L (M.N + vn) ⟨3, head, who, an, b, vn⟩) an).length (rlCells ((addL L (M.N + vn) ⟨3, head, who, an, b, vn⟩) an)) (by simp [Act.eval, Act.put]) (Hown.out _ (((Keeps.refl _ _).drew).alloc _)) ⟨wc.heap.size, 0, none⟩ 1 1 [.int .i64 3, .int .i64 head, .int .i64 who, .int .i64 an, .int .i64 b, .int .i64 vn] (by simp [Act.eval, Act.put]) rfl (cells_new _ _ _) (by intro u hu; simp only [List.mem_cons, List.not_mem_nil, or_false] at hu; rcases hu with rfl | rfl | rfl | rfl | rfl | rfl <;> rfl) (by omega) (by unfold maxLen; omega) (by omega) ?_
      intro ao' cap' w2 hown hgrow hfp
      obtain ⟨e1, e3, e4, e5, HP⟩ := HG.out _ _ _ _ (((Keeps.refl _ _).drew).alloc _) hown hgrow hfp
      clear hown hgrow hfp
      refine hK.out _ _ ?s16QX (fun hHeld => ?_)
      case s16QX => exact e1
      clear hK K
      (try simp only [Act.put, List.setIfInBounds_toArray, List.set_cons_zero, List.set_cons_succ])
      refine wpAnyH_take_at (i := 17) (v := ?v17QX) rfl (by kernel_rfl) (by kernel_rfl) (by kernel_rfl) (fun _ _ _ h => h) (Or.inl ⟨by rfl, ?y17QX⟩) hHeld ?r17QX
      case y17QX => (intro w hSw; (try dsimp only at hSw); go_simp; first | done | with_reducible rfl)
      (try simp only [Act.put, List.setIfInBounds_toArray, List.set_cons_zero, List.set_cons_succ])
      refine wpAnyH_one (i := 18) (by kernel_rfl) rfl (fun K hK => ?_)
      go_simp
      refine hK.out _ _ ?s18QX (fun hHeld => ?_)
      case s18QX => exact e5
      clear hK K
      (try simp only [Act.put, List.setIfInBounds_toArray, List.set_cons_zero, List.set_cons_succ])
      refine wpAnyH_done (by kernel_rfl) ?_ _
      refine NoPanic.normal ?_
      go_wp2_with fail
      go_end0
      exact HP.out
    · go_simp
      refine hK.out _ _ ?s15QZ (fun hHeld => ?_)
      case s15QZ => exact HK2.out _
      clear hK K
      (try simp only [Act.put, List.setIfInBounds_toArray, List.set_cons_zero, List.set_cons_succ])
      refine wpAnyH_one (i := 13) (by kernel_rfl) rfl (fun K hK => ?_)
      go_simp
      refine hK.out _ _ ?s13QZ (fun hHeld => ?_)
      case s13QZ => exact hHeld
      clear hK K
      (try simp only [Act.put, List.setIfInBounds_toArray, List.set_cons_zero, List.set_cons_succ])
      refine wpAnyH_one (i := 16) (by kernel_rfl) rfl (fun K hK => ?_)
      refine step_append_tail rfl (.tmp 75) (.tmp 77) 38 rfl 29 i0 _ 6 48 Tryd.underlying38 hi0 hz0 hz1' hz2 rfl (by decide) (.slice ao ((addL L (M.N + vn) ⟨3, head, who, an, b, vn⟩) an).length cap) ((addL L (M.N + vn) ⟨3, head, who, an, b, vn⟩) an).length (rlCells ((addL L (M.N + vn) ⟨3, head, who, an, b, vn⟩) an)) (by simp [Act.eval, Act.put]) (Hown.out _ (((Keeps.refl _ _).drew).alloc _)) ⟨wc.heap.size, 0, none⟩ 1 1 [.int .i64 3, .int .i64 head, .int .i64 who, .int .i64 an, .int .i64 b, .int .i64 vn] (by simp [Act.eval, Act.put]) rfl (cells_new _ _ _) (by intro u hu; simp only [List.mem_cons, List.not_mem_nil, or_false] at hu; rcases hu with rfl | rfl | rfl | rfl | rfl | rfl <;> rfl) (by omega) (by unfold maxLen; omega) (by omega) ?_
      intro ao' cap' w2 hown hgrow hfp
      obtain ⟨e1, e3, e4, e5, HP⟩ := HG.out _ _ _ _ (((Keeps.refl _ _).drew).alloc _) hown hgrow hfp
      clear hown hgrow hfp
      refine hK.out _ _ ?s16QZ (fun hHeld => ?_)
      case s16QZ => exact e1
      clear hK K
      (try simp only [Act.put, List.setIfInBounds_toArray, List.set_cons_zero, List.set_cons_succ])
      refine wpAnyH_take_at (i := 17) (v := ?v17QZ) rfl (by kernel_rfl) (by kernel_rfl) (by kernel_rfl) (fun _ _ _ h => h) (Or.inl ⟨by rfl, ?y17QZ⟩) hHeld ?r17QZ
      case y17QZ => (intro w hSw; (try dsimp only at hSw); go_simp; first | done | with_reducible rfl)
      (try simp only [Act.put, List.setIfInBounds_toArray, List.set_cons_zero, List.set_cons_succ])
      refine wpAnyH_one (i := 18) (by kernel_rfl) rfl (fun K hK => ?_)
      go_simp
      refine hK.out _ _ ?s18QZ (fun hHeld => ?_)
      case s18QZ => exact e5
      clear hK K
      (try simp only [Act.put, List.setIfInBounds_toArray, List.set_cons_zero, List.set_cons_succ])
      refine wpAnyH_done (by kernel_rfl) ?_ _
      refine NoPanic.normal ?_
      go_wp2_with fail
      go_end0
      exact HP.out
set_option maxRecDepth 100000 in
set_option maxHeartbeats 3200000 in
theorem sput_both (h : SemAt W M vr L s vq) (hs : s.steps ≤ 10000000000000000) (hL : ∀ i, (L i).length ≤ 1000000) (head who via : Int) (an bn : Nat) (ha : an < M.N) (hb : bn < M.N) (hne : bn ≠ an) :
    Calls Tryd.prog 44 #[.pointer (some ⟨M.mb, 0, none⟩), .agg #[.int .i64 4, .int .i64 head, .int .i64 who, .int .i64 an, .int .i64 bn, .int .i64 via]] W (PutPost M vr (addL (addL L bn ⟨4, head, who, an, bn, via⟩) an ⟨4, head, who, an, bn, via⟩) vq s.tick W) := by
  have hP64 := h.hP
  have hK64 := h.hK
  have hNle : M.N ≤ 64 * 64 := Nat.mul_le_mul hP64 hK64
  have hbx := PutAt.box h ⟨4, head, who, an, bn, via⟩
  obtain ⟨n0, n1, n2, n3⟩ := hbx.at_.mcells
  obtain ⟨o0, o1, o2, o3⟩ := hbx.at_.ocells
  have fo := hbx.at_.free.2 3
  obtain ⟨r0, r1, r2, r3, r4, r5⟩ := hbx.rule
  have htk := hbx.tick
  rw [show ((s.steps + 1 : Nat) : Int) = (s.steps : Int) + 1 from by omega] at htk
  have hwt : IntKind.i64.wrap ((s.steps : Int) + 1) = (s.steps : Int) + 1 := IntWalk.i64_in _ (by omega)
  unfold ruleObj at *
  simp only [] at n0 n1 n2 n3 o0 o1 o2 o3 fo r0 r1 r2 r3 r4 r5 htk
  clear hbx
  obtain ⟨i0, hi0, hz0, hz1', hz2⟩ := info_parts rlInfo
  have haI : (an : Int) < (M.N : Int) := by omega
  have hbI : (bn : Int) < (M.N : Int) := by omega
  have hneI : ¬ (bn : Int) = (an : Int) := by omega
  go_enter Tryd.func44, Tryd.ntmps44
  go_upto_region 2 with fail
  generalize (W.alloc (.cells #[.int .i64 4, .int .i64 head, .int .i64 who, .int .i64 an, .int .i64 bn, .int .i64 via] 29)).setCell ⟨M.mo, 3, none⟩ (.int .i64 ((s.steps : Int) + 1)) = wq at htk ⊢
  clear n0 n1 n2 n3 o0 o1 o2 o3 fo r0 r1 r2 r3 r4 r5 h
  obtain ⟨p1, p2, p3, p4, p5, p6, p7, p8⟩ := htk.rd.cells
  simp only [] at p3 p4 p5 p6 p7 p8
  go_upto_region 11 with fail
  clear p1 p2 p3 p4 p5 p6 p7 p8
  have HL := Lib.hid hL
  go_cut [] (fun wx => ∃ vr', Hid (PutAt W M vr vr' (addL L bn ⟨4, head, who, an, bn, via⟩) vq W.heap.size ⟨4, head, who, an, bn, via⟩ s.tick vq wx))
  case first =>
    have HQ := Lib.hid htk
    obtain ⟨ao, cap, hv, hle, hmx⟩ := htk.at_.rowV (i := bn) (by omega)
    have hlen : (L bn).length ≤ 1000001 := Nat.le_succ_of_le (hL _)
    have hS0 : (fun w' => w'.cell? ⟨M.mb, 1, none⟩ = some (.slice (some ⟨M.bb, 0, none⟩) M.N M.N) ∧ w'.cell? ⟨M.mb, 2, none⟩ = some (.slice (some ⟨M.vb, 0, none⟩) M.K M.K) ∧ w'.cell? ⟨W.heap.size, 0, none⟩ = some (.int .i64 4) ∧ w'.cell? ⟨W.heap.size, 1, none⟩ = some (.int .i64 head) ∧ w'.cell? ⟨W.heap.size, 2, none⟩ = some (.int .i64 who) ∧ w'.cell? ⟨W.heap.size, 3, none⟩ = some (.int .i64 an) ∧ w'.cell? ⟨W.heap.size, 4, none⟩ = some (.int .i64 bn) ∧ w'.cell? ⟨W.heap.size, 5, none⟩ = some (.int .i64 via)) wq.drew := (htk.quiet ((Keeps.refl _ _).drew)).rd.cells
    have HK2 : Hid (∀ o, (fun w' => w'.cell? ⟨M.mb, 1, none⟩ = some (.slice (some ⟨M.bb, 0, none⟩) M.N M.N) ∧ w'.cell? ⟨M.mb, 2, none⟩ = some (.slice (some ⟨M.vb, 0, none⟩) M.K M.K) ∧ w'.cell? ⟨W.heap.size, 0, none⟩ = some (.int .i64 4) ∧ w'.cell? ⟨W.heap.size, 1, none⟩ = some (.int .i64 head) ∧ w'.cell? ⟨W.heap.size, 2, none⟩ = some (.int .i64 who) ∧ w'.cell? ⟨W.heap.size, 3, none⟩ = some (.int .i64 an) ∧ w'.cell? ⟨W.heap.size, 4, none⟩ = some (.int .i64 bn) ∧ w'.cell? ⟨W.heap.size, 5, none⟩ = some (.int .i64 via)) (wq.drew.alloc o)) := fun o => (HQ.out.quiet (((Keeps.refl _ _).drew).alloc o)).rd.cells
    have pba : wq.cell? ⟨M.bb, bn, none⟩ = some (.slice ao (L bn).length cap) := by rw [← hv]; exact htk.rd.bc bn hb
    have pfa : wq.frozen? ⟨M.bb, bn, none⟩ = false := htk.rd.bf bn
    have lb : M.bb < wq.heap.size := lt_of_cell pba
    have Hown : Hid (∀ W', Keeps (fun _ => False) wq W' → TailRow W' 29 6 (.slice ao (L bn).length cap) (L bn).length (rlCells (L bn))) := fun W' hk => by
      have := (HQ.out.at_.keeps hk).rows (bn) (by omega)
      rw [hv] at this
      exact this
    have HG : Hid (∀ W1 W2 ao' cap', Keeps (fun _ => False) wq W1 → TailRow W2 29 6 (.slice ao' ((L bn).length + 1) cap') ((L bn).length + 1) (rlCells (L bn) ++ [.int .i64 4, .int .i64 head, .int .i64 who, .int .i64 an, .int .i64 bn, .int .i64 via]) → W1.grownBy W2 (Value.slice ao (L bn).length cap).ownBlock → (∀ k, (Value.slice ao' ((L bn).length + 1) cap').ownBlock = some k → (Value.slice ao (L bn).length cap).ownBlock = some k ∨ W1.heap.size ≤ k) →
        (fun w' => w'.cell? ⟨M.mb, 1, none⟩ = some (.slice (some ⟨M.bb, 0, none⟩) M.N M.N) ∧ w'.cell? ⟨M.mb, 2, none⟩ = some (.slice (some ⟨M.vb, 0, none⟩) M.K M.K) ∧ w'.cell? ⟨W.heap.size, 0, none⟩ = some (.int .i64 4) ∧ w'.cell? ⟨W.heap.size, 1, none⟩ = some (.int .i64 head) ∧ w'.cell? ⟨W.heap.size, 2, none⟩ = some (.int .i64 who) ∧ w'.cell? ⟨W.heap.size, 3, none⟩ = some (.int .i64 an) ∧ w'.cell? ⟨W.heap.size, 4, none⟩ = some (.int .i64 bn) ∧ w'.cell? ⟨W.heap.size, 5, none⟩ = some (.int .i64 via)) W2 ∧ W2.cell? ⟨M.bb, bn, none⟩ = some (.slice ao (L bn).length cap) ∧ W2.frozen? ⟨M.bb, bn, none⟩ = false ∧ (fun w' => w'.cell? ⟨M.mb, 1, none⟩ = some (.slice (some ⟨M.bb, 0, none⟩) M.N M.N) ∧ w'.cell? ⟨M.mb, 2, none⟩ = some (.slice (some ⟨M.vb, 0, none⟩) M.K M.K) ∧ w'.cell? ⟨W.heap.size, 0, none⟩ = some (.int .i64 4) ∧ w'.cell? ⟨W.heap.size, 1, none⟩ = some (.int .i64 head) ∧ w'.cell? ⟨W.heap.size, 2, none⟩ = some (.int .i64 who) ∧ w'.cell? ⟨W.heap.size, 3, none⟩ = some (.int .i64 an) ∧ w'.cell? ⟨W.heap.size, 4, none⟩ = some (.int .i64 bn) ∧ w'.cell? ⟨W.heap.size, 5, none⟩ = some (.int .i64 via)) (W2.setCell ⟨M.bb, bn, none⟩ (.slice ao' ((L bn).length + 1) cap')) ∧ (∃ vr', Hid (PutAt W M vr vr' (addL L bn ⟨4, head, who, an, bn, via⟩) vq W.heap.size ⟨4, head, who, an, bn, via⟩ s.tick vq (W2.setCell ⟨M.bb, bn, none⟩ (.slice ao' ((L bn).length + 1) cap'))))) := fun W1 W2 ao' cap' k1 ho hgr hfp => by
      rw [← hv] at hgr hfp
      obtain ⟨a1, a2⟩ := HQ.out.grow (g := bn) (by omega) k1 ho hgr hfp
      have a3 := a2 ⟨M.bb, bn, none⟩ (.inl ⟨hb, rfl⟩)
      exact ⟨a1.cells, by rw [← hv]; exact a1.bc bn hb, a1.bf bn, a3.out.rd.cells, ⟨_, a3⟩⟩
    clear htk hv
    refine wp_region_noPanic ?_
    refine wp_region_held_drew (S := fun w' => w'.cell? ⟨M.mb, 1, none⟩ = some (.slice (some ⟨M.bb, 0, none⟩) M.N M.N) ∧ w'.cell? ⟨M.mb, 2, none⟩ = some (.slice (some ⟨M.vb, 0, none⟩) M.K M.K) ∧ w'.cell? ⟨W.heap.size, 0, none⟩ = some (.int .i64 4) ∧ w'.cell? ⟨W.heap.size, 1, none⟩ = some (.int .i64 head) ∧ w'.cell? ⟨W.heap.size, 2, none⟩ = some (.int .i64 who) ∧ w'.cell? ⟨W.heap.size, 3, none⟩ = some (.int .i64 an) ∧ w'.cell? ⟨W.heap.size, 4, none⟩ = some (.int .i64 bn) ∧ w'.cell? ⟨W.heap.size, 5, none⟩ = some (.int .i64 via)) (by kernel_rfl) hS0 (fun hHeld => ?_)
    refine wpAnyH_take_at (i := 0) (v := ?v0P) rfl (by kernel_rfl) (by kernel_rfl) (by kernel_rfl) (fun _ _ _ h => h) (Or.inl ⟨by rfl, ?y0P⟩) hHeld ?r0P
    case y0P => (intro w hSw; (try dsimp only at hSw); go_simp; first | done | with_reducible rfl)
    (try simp only [Act.put, List.setIfInBounds_toArray, List.set_cons_zero, List.set_cons_succ])
    refine wpAnyH_take_at (i := 1) (v := ?v1P) rfl (by kernel_rfl) (by kernel_rfl) (by kernel_rfl) (fun _ _ _ h => h) (Or.inl ⟨by rfl, ?y1P⟩) hHeld ?r1P
    case y1P => (intro w hSw; (try dsimp only at hSw); go_simp; first | done | with_reducible rfl)
    (try simp only [Act.put, List.setIfInBounds_toArray, List.set_cons_zero, List.set_cons_succ])
    refine wpAnyH_take_at (i := 2) (v := ?v2P) rfl (by kernel_rfl) (by kernel_rfl) (by kernel_rfl) (fun _ _ _ h => h) (Or.inl ⟨by rfl, ?y2P⟩) hHeld ?r2P
    case y2P => (intro w hSw; (try dsimp only at hSw); go_simp; first | done | with_reducible rfl)
    (try simp only [Act.put, List.setIfInBounds_toArray, List.set_cons_zero, List.set_cons_succ])
    refine wpAnyH_take_at (i := 3) (v := ?v3P) rfl (by kernel_rfl) (by kernel_rfl) (by kernel_rfl) (fun _ _ _ h => h) (Or.inl ⟨by rfl, ?y3P⟩) hHeld ?r3P
    case y3P => (intro w hSw; (try dsimp only at hSw); go_simp; first | done | with_reducible rfl)
    (try simp only [Act.put, List.setIfInBounds_toArray, List.set_cons_zero, List.set_cons_succ])
    refine wpAnyH_take_at (i := 4) (v := ?v4P) rfl (by kernel_rfl) (by kernel_rfl) (by kernel_rfl) (fun _ _ _ h => h) (Or.inl ⟨by rfl, ?y4P⟩) hHeld ?r4P
    case y4P => (intro w hSw; (try dsimp only at hSw); go_simp; first | done | with_reducible rfl)
    (try simp only [Act.put, List.setIfInBounds_toArray, List.set_cons_zero, List.set_cons_succ])
    refine wpAnyH_take_at (i := 5) (v := ?v5P) rfl (by kernel_rfl) (by kernel_rfl) (by kernel_rfl) (fun _ _ _ h => h) (Or.inl ⟨by rfl, ?y5P⟩) hHeld ?r5P
    case y5P => (intro w hSw; (try dsimp only at hSw); go_simp; first | done | with_reducible rfl)
    (try simp only [Act.put, List.setIfInBounds_toArray, List.set_cons_zero, List.set_cons_succ])
    refine wpAnyH_take_at (i := 6) (v := ?v6P) rfl (by kernel_rfl) (by kernel_rfl) (by kernel_rfl) (fun _ _ _ h => h) (Or.inl ⟨by rfl, ?y6P⟩) hHeld ?r6P
    case y6P => (intro w hSw; (try dsimp only at hSw); go_simp; first | done | with_reducible rfl)
    (try simp only [Act.put, List.setIfInBounds_toArray, List.set_cons_zero, List.set_cons_succ])
    refine wpAnyH_take_at (i := 7) (v := ?v7P) rfl (by kernel_rfl) (by kernel_rfl) (by kernel_rfl) (fun _ _ _ h => h) (Or.inl ⟨by rfl, ?y7P⟩) hHeld ?r7P
    case y7P => (intro w hSw; (try dsimp only at hSw); go_simp; first | done | with_reducible rfl)
    (try simp only [Act.put, List.setIfInBounds_toArray, List.set_cons_zero, List.set_cons_succ])
    refine wpAnyH_take_at (i := 8) (v := ?v8P) rfl (by kernel_rfl) (by kernel_rfl) (by kernel_rfl) (fun _ _ _ h => h) (Or.inl ⟨by rfl, ?y8P⟩) hHeld ?r8P
    case y8P => (intro w hSw; (try dsimp only at hSw); go_simp; first | done | with_reducible rfl)
    (try simp only [Act.put, List.setIfInBounds_toArray, List.set_cons_zero, List.set_cons_succ])
    refine wpAnyH_take_at (i := 9) (v := ?v9P) rfl (by kernel_rfl) (by kernel_rfl) (by kernel_rfl) (fun _ _ _ h => h) (Or.inl ⟨by rfl, ?y9P⟩) hHeld ?r9P
    case y9P => (intro w hSw; (try dsimp only at hSw); go_simp; first | done | with_reducible rfl)
    (try simp only [Act.put, List.setIfInBounds_toArray, List.set_cons_zero, List.set_cons_succ])
    refine wpAnyH_take_at (i := 10) (v := ?v10P) rfl (by kernel_rfl) (by kernel_rfl) (by kernel_rfl) (fun _ _ _ h => h) (Or.inl ⟨by rfl, ?y10P⟩) hHeld ?r10P
    case y10P => (intro w hSw; (try dsimp only at hSw); go_simp; first | done | with_reducible rfl)
    (try simp only [Act.put, List.setIfInBounds_toArray, List.set_cons_zero, List.set_cons_succ])
    refine wpAnyH_take_at (i := 11) (v := ?v11P) rfl (by kernel_rfl) (by kernel_rfl) (by kernel_rfl) (fun _ _ _ h => h) (Or.inl ⟨by rfl, ?y11P⟩) hHeld ?r11P
    case y11P => (intro w hSw; (try dsimp only at hSw); go_simp; first | done | with_reducible rfl)
    (try simp only [Act.put, List.setIfInBounds_toArray, List.set_cons_zero, List.set_cons_succ])
    refine wpAnyH_take_at (i := 12) (v := ?v12P) rfl (by kernel_rfl) (by kernel_rfl) (by kernel_rfl) (fun _ _ _ h => h) (Or.inl ⟨by rfl, ?y12P⟩) hHeld ?r12P
    case y12P => (intro w hSw; (try dsimp only at hSw); go_simp; first | done | with_reducible rfl)
    (try simp only [Act.put, List.setIfInBounds_toArray, List.set_cons_zero, List.set_cons_succ])
    refine wpAnyH_take_at (i := 14) (v := ?v14P) rfl (by kernel_rfl) (by kernel_rfl) (by kernel_rfl) (fun _ _ _ h => h) (Or.inl ⟨by rfl, ?y14P⟩) hHeld ?r14P
    case y14P => (intro w hSw; (try dsimp only at hSw); go_simp; first | done | with_reducible rfl)
    (try simp only [Act.put, List.setIfInBounds_toArray, List.set_cons_zero, List.set_cons_succ])
    refine wpAnyH_ready (rs := [13, 15]) (by kernel_rfl) (by simp) (AllReadyH.cons (get_at rfl) (fun K hK => ?_) (AllReadyH.cons (get_at rfl) (fun K hK => ?_) AllReadyH.nil))
    · go_simp
      refine hK.out _ _ ?s13PX (fun hHeld => ?_)
      case s13PX => exact hHeld
      clear hK K
      (try simp only [Act.put, List.setIfInBounds_toArray, List.set_cons_zero, List.set_cons_succ])
      refine wpAnyH_one (i := 15) (by kernel_rfl) rfl (fun K hK => ?_)
      go_simp
      refine hK.out _ _ ?s15PX (fun hHeld => ?_)
      case s15PX => exact HK2.out _
      clear hK K
      (try simp only [Act.put, List.setIfInBounds_toArray, List.set_cons_zero, List.set_cons_succ])
      refine wpAnyH_one (i := 16) (by kernel_rfl) rfl (fun K hK => ?_)
      refine step_append_tail rfl (.tmp 100) (.tmp 102) 38 rfl 29 i0 _ 6 48 Tryd.underlying38 hi0 hz0 hz1' hz2 rfl (by decide) (.slice ao (L bn).length cap) (L bn).length (rlCells (L bn)) (by simp [Act.eval, Act.put]) (Hown.out _ (((Keeps.refl _ _).drew).alloc _)) ⟨wq.heap.size, 0, none⟩ 1 1 [.int .i64 4, .int .i64 head, .int .i64 who, .int .i64 an, .int .i64 bn, .int .i64 via] (by simp [Act.eval, Act.put]) rfl (cells_new _ _ _) (by intro u hu; simp only [List.mem_cons, List.not_mem_nil, or_false] at hu; rcases hu with rfl | rfl | rfl | rfl | rfl | rfl <;> rfl) (by omega) (by unfold maxLen; omega) (by omega) ?_
      intro ao' cap' w2 hown hgrow hfp
      obtain ⟨e1, e3, e4, e5, HP⟩ := HG.out _ _ _ _ (((Keeps.refl _ _).drew).alloc _) hown hgrow hfp
      clear hown hgrow hfp
      refine hK.out _ _ ?s16PX (fun hHeld => ?_)
      case s16PX => exact e1
      clear hK K
      (try simp only [Act.put, List.setIfInBounds_toArray, List.set_cons_zero, List.set_cons_succ])
      refine wpAnyH_take_at (i := 17) (v := ?v17PX) rfl (by kernel_rfl) (by kernel_rfl) (by kernel_rfl) (fun _ _ _ h => h) (Or.inl ⟨by rfl, ?y17PX⟩) hHeld ?r17PX
      case y17PX => (intro w hSw; (try dsimp only at hSw); go_simp; first | done | with_reducible rfl)
      (try simp only [Act.put, List.setIfInBounds_toArray, List.set_cons_zero, List.set_cons_succ])
      refine wpAnyH_one (i := 18) (by kernel_rfl) rfl (fun K hK => ?_)
      go_simp
      refine hK.out _ _ ?s18PX (fun hHeld => ?_)
      case s18PX => exact e5
      clear hK K
      (try simp only [Act.put, List.setIfInBounds_toArray, List.set_cons_zero, List.set_cons_succ])
      refine wpAnyH_done (by kernel_rfl) ?_ _
      refine NoPanic.normal ?_
      go_wp2_with fail
      go_meet
      exact HP
    · go_simp
      refine hK.out _ _ ?s15PZ (fun hHeld => ?_)
      case s15PZ => exact HK2.out _
      clear hK K
      (try simp only [Act.put, List.setIfInBounds_toArray, List.set_cons_zero, List.set_cons_succ])
      refine wpAnyH_one (i := 13) (by kernel_rfl) rfl (fun K hK => ?_)
      go_simp
      refine hK.out _ _ ?s13PZ (fun hHeld => ?_)
      case s13PZ => exact hHeld
      clear hK K
      (try simp only [Act.put, List.setIfInBounds_toArray, List.set_cons_zero, List.set_cons_succ])
      refine wpAnyH_one (i := 16) (by kernel_rfl) rfl (fun K hK => ?_)
      refine step_append_tail rfl (.tmp 100) (.tmp 102) 38 rfl 29 i0 _ 6 48 Tryd.underlying38 hi0 hz0 hz1' hz2 rfl (by decide) (.slice ao (L bn).length cap) (L bn).length (rlCells (L bn)) (by simp [Act.eval, Act.put]) (Hown.out _ (((Keeps.refl _ _).drew).alloc _)) ⟨wq.heap.size, 0, none⟩ 1 1 [.int .i64 4, .int .i64 head, .int .i64 who, .int .i64 an, .int .i64 bn, .int .i64 via] (by simp [Act.eval, Act.put]) rfl (cells_new _ _ _) (by intro u hu; simp only [List.mem_cons, List.not_mem_nil, or_false] at hu; rcases hu with rfl | rfl | rfl | rfl | rfl | rfl <;> rfl) (by omega) (by unfold maxLen; omega) (by omega) ?_
      intro ao' cap' w2 hown hgrow hfp
      obtain ⟨e1, e3, e4, e5, HP⟩ := HG.out _ _ _ _ (((Keeps.refl _ _).drew).alloc _) hown hgrow hfp
      clear hown hgrow hfp
      refine hK.out _ _ ?s16PZ (fun hHeld => ?_)
      case s16PZ => exact e1
      clear hK K
      (try simp only [Act.put, List.setIfInBounds_toArray, List.set_cons_zero, List.set_cons_succ])
      refine wpAnyH_take_at (i := 17) (v := ?v17PZ) rfl (by kernel_rfl) (by kernel_rfl) (by kernel_rfl) (fun _ _ _ h => h) (Or.inl ⟨by rfl, ?y17PZ⟩) hHeld ?r17PZ
      case y17PZ => (intro w hSw; (try dsimp only at hSw); go_simp; first | done | with_reducible rfl)
      (try simp only [Act.put, List.setIfInBounds_toArray, List.set_cons_zero, List.set_cons_succ])
      refine wpAnyH_one (i := 18) (by kernel_rfl) rfl (fun K hK => ?_)
      go_simp
      refine hK.out _ _ ?s18PZ (fun hHeld => ?_)
      case s18PZ => exact e5
      clear hK K
      (try simp only [Act.put, List.setIfInBounds_toArray, List.set_cons_zero, List.set_cons_succ])
      refine wpAnyH_done (by kernel_rfl) ?_ _
      refine NoPanic.normal ?_
      go_wp2_with fail
      go_meet
      exact HP
  case rest =>
    obtain ⟨vr1, hq1⟩ := hcut
    have htk := hq1.out
    clear hq1
    have p1 : True := trivial
    clear p1
    have HQ := Lib.hid htk
    obtain ⟨ao, cap, hv, hle, hmx⟩ := htk.at_.rowV (i := an) (by omega)
    have hlen : ((addL L bn ⟨4, head, who, an, bn, via⟩) an).length ≤ 1000001 := by have := HL.out an; unfold addL; split <;> (try rw [List.length_append]; show _ + 1 ≤ _) <;> omega
    have hS0 : (fun w' => w'.cell? ⟨M.mb, 1, none⟩ = some (.slice (some ⟨M.bb, 0, none⟩) M.N M.N) ∧ w'.cell? ⟨M.mb, 2, none⟩ = some (.slice (some ⟨M.vb, 0, none⟩) M.K M.K) ∧ w'.cell? ⟨W.heap.size, 0, none⟩ = some (.int .i64 4) ∧ w'.cell? ⟨W.heap.size, 1, none⟩ = some (.int .i64 head) ∧ w'.cell? ⟨W.heap.size, 2, none⟩ = some (.int .i64 who) ∧ w'.cell? ⟨W.heap.size, 3, none⟩ = some (.int .i64 an) ∧ w'.cell? ⟨W.heap.size, 4, none⟩ = some (.int .i64 bn) ∧ w'.cell? ⟨W.heap.size, 5, none⟩ = some (.int .i64 via)) wc.drew := (htk.quiet ((Keeps.refl _ _).drew)).rd.cells
    have HK2 : Hid (∀ o, (fun w' => w'.cell? ⟨M.mb, 1, none⟩ = some (.slice (some ⟨M.bb, 0, none⟩) M.N M.N) ∧ w'.cell? ⟨M.mb, 2, none⟩ = some (.slice (some ⟨M.vb, 0, none⟩) M.K M.K) ∧ w'.cell? ⟨W.heap.size, 0, none⟩ = some (.int .i64 4) ∧ w'.cell? ⟨W.heap.size, 1, none⟩ = some (.int .i64 head) ∧ w'.cell? ⟨W.heap.size, 2, none⟩ = some (.int .i64 who) ∧ w'.cell? ⟨W.heap.size, 3, none⟩ = some (.int .i64 an) ∧ w'.cell? ⟨W.heap.size, 4, none⟩ = some (.int .i64 bn) ∧ w'.cell? ⟨W.heap.size, 5, none⟩ = some (.int .i64 via)) (wc.drew.alloc o)) := fun o => (HQ.out.quiet (((Keeps.refl _ _).drew).alloc o)).rd.cells
    have pba : wc.cell? ⟨M.bb, an, none⟩ = some (.slice ao ((addL L bn ⟨4, head, who, an, bn, via⟩) an).length cap) := by rw [← hv]; exact htk.rd.bc an ha
    have pfa : wc.frozen? ⟨M.bb, an, none⟩ = false := htk.rd.bf an
    have lb : M.bb < wc.heap.size := lt_of_cell pba
    have Hown : Hid (∀ W', Keeps (fun _ => False) wc W' → TailRow W' 29 6 (.slice ao ((addL L bn ⟨4, head, who, an, bn, via⟩) an).length cap) ((addL L bn ⟨4, head, who, an, bn, via⟩) an).length (rlCells ((addL L bn ⟨4, head, who, an, bn, via⟩) an))) := fun W' hk => by
      have := (HQ.out.at_.keeps hk).rows (an) (by omega)
      rw [hv] at this
      exact this
    have HG : Hid (∀ W1 W2 ao' cap', Keeps (fun _ => False) wc W1 → TailRow W2 29 6 (.slice ao' (((addL L bn ⟨4, head, who, an, bn, via⟩) an).length + 1) cap') (((addL L bn ⟨4, head, who, an, bn, via⟩) an).length + 1) (rlCells ((addL L bn ⟨4, head, who, an, bn, via⟩) an) ++ [.int .i64 4, .int .i64 head, .int .i64 who, .int .i64 an, .int .i64 bn, .int .i64 via]) → W1.grownBy W2 (Value.slice ao ((addL L bn ⟨4, head, who, an, bn, via⟩) an).length cap).ownBlock → (∀ k, (Value.slice ao' (((addL L bn ⟨4, head, who, an, bn, via⟩) an).length + 1) cap').ownBlock = some k → (Value.slice ao ((addL L bn ⟨4, head, who, an, bn, via⟩) an).length cap).ownBlock = some k ∨ W1.heap.size ≤ k) →
        (fun w' => w'.cell? ⟨M.mb, 1, none⟩ = some (.slice (some ⟨M.bb, 0, none⟩) M.N M.N) ∧ w'.cell? ⟨M.mb, 2, none⟩ = some (.slice (some ⟨M.vb, 0, none⟩) M.K M.K) ∧ w'.cell? ⟨W.heap.size, 0, none⟩ = some (.int .i64 4) ∧ w'.cell? ⟨W.heap.size, 1, none⟩ = some (.int .i64 head) ∧ w'.cell? ⟨W.heap.size, 2, none⟩ = some (.int .i64 who) ∧ w'.cell? ⟨W.heap.size, 3, none⟩ = some (.int .i64 an) ∧ w'.cell? ⟨W.heap.size, 4, none⟩ = some (.int .i64 bn) ∧ w'.cell? ⟨W.heap.size, 5, none⟩ = some (.int .i64 via)) W2 ∧ W2.cell? ⟨M.bb, an, none⟩ = some (.slice ao ((addL L bn ⟨4, head, who, an, bn, via⟩) an).length cap) ∧ W2.frozen? ⟨M.bb, an, none⟩ = false ∧ (fun w' => w'.cell? ⟨M.mb, 1, none⟩ = some (.slice (some ⟨M.bb, 0, none⟩) M.N M.N) ∧ w'.cell? ⟨M.mb, 2, none⟩ = some (.slice (some ⟨M.vb, 0, none⟩) M.K M.K) ∧ w'.cell? ⟨W.heap.size, 0, none⟩ = some (.int .i64 4) ∧ w'.cell? ⟨W.heap.size, 1, none⟩ = some (.int .i64 head) ∧ w'.cell? ⟨W.heap.size, 2, none⟩ = some (.int .i64 who) ∧ w'.cell? ⟨W.heap.size, 3, none⟩ = some (.int .i64 an) ∧ w'.cell? ⟨W.heap.size, 4, none⟩ = some (.int .i64 bn) ∧ w'.cell? ⟨W.heap.size, 5, none⟩ = some (.int .i64 via)) (W2.setCell ⟨M.bb, an, none⟩ (.slice ao' (((addL L bn ⟨4, head, who, an, bn, via⟩) an).length + 1) cap')) ∧ Hid (PutPost M vr (addL (addL L bn ⟨4, head, who, an, bn, via⟩) an ⟨4, head, who, an, bn, via⟩) vq s.tick W (.returned (.tuple #[])) (W2.setCell ⟨M.bb, an, none⟩ (.slice ao' (((addL L bn ⟨4, head, who, an, bn, via⟩) an).length + 1) cap')))) := fun W1 W2 ao' cap' k1 ho hgr hfp => by
      rw [← hv] at hgr hfp
      obtain ⟨a1, a2⟩ := HQ.out.grow (g := an) (by omega) k1 ho hgr hfp
      have a3 := a2 ⟨M.bb, an, none⟩ (.inl ⟨ha, rfl⟩)
      exact ⟨a1.cells, by rw [← hv]; exact a1.bc an ha, a1.bf an, a3.out.rd.cells, a3.out.post rfl⟩
    clear htk hv
    go_upto_region 12 with fail
    refine wp_region_noPanic ?_
    refine wp_region_held_drew (S := fun w' => w'.cell? ⟨M.mb, 1, none⟩ = some (.slice (some ⟨M.bb, 0, none⟩) M.N M.N) ∧ w'.cell? ⟨M.mb, 2, none⟩ = some (.slice (some ⟨M.vb, 0, none⟩) M.K M.K) ∧ w'.cell? ⟨W.heap.size, 0, none⟩ = some (.int .i64 4) ∧ w'.cell? ⟨W.heap.size, 1, none⟩ = some (.int .i64 head) ∧ w'.cell? ⟨W.heap.size, 2, none⟩ = some (.int .i64 who) ∧ w'.cell? ⟨W.heap.size, 3, none⟩ = some (.int .i64 an) ∧ w'.cell? ⟨W.heap.size, 4, none⟩ = some (.int .i64 bn) ∧ w'.cell? ⟨W.heap.size, 5, none⟩ = some (.int .i64 via)) (by kernel_rfl) hS0 (fun hHeld => ?_)
    refine wpAnyH_take_at (i := 0) (v := ?v0Q) rfl (by kernel_rfl) (by kernel_rfl) (by kernel_rfl) (fun _ _ _ h => h) (Or.inl ⟨by rfl, ?y0Q⟩) hHeld ?r0Q
    case y0Q => (intro w hSw; (try dsimp only at hSw); go_simp; first | done | with_reducible rfl)
    (try simp only [Act.put, List.setIfInBounds_toArray, List.set_cons_zero, List.set_cons_succ])
    refine wpAnyH_take_at (i := 1) (v := ?v1Q) rfl (by kernel_rfl) (by kernel_rfl) (by kernel_rfl) (fun _ _ _ h => h) (Or.inl ⟨by rfl, ?y1Q⟩) hHeld ?r1Q
    case y1Q => (intro w hSw; (try dsimp only at hSw); go_simp; first | done | with_reducible rfl)
    (try simp only [Act.put, List.setIfInBounds_toArray, List.set_cons_zero, List.set_cons_succ])
    refine wpAnyH_take_at (i := 2) (v := ?v2Q) rfl (by kernel_rfl) (by kernel_rfl) (by kernel_rfl) (fun _ _ _ h => h) (Or.inl ⟨by rfl, ?y2Q⟩) hHeld ?r2Q
    case y2Q => (intro w hSw; (try dsimp only at hSw); go_simp; first | done | with_reducible rfl)
    (try simp only [Act.put, List.setIfInBounds_toArray, List.set_cons_zero, List.set_cons_succ])
    refine wpAnyH_take_at (i := 3) (v := ?v3Q) rfl (by kernel_rfl) (by kernel_rfl) (by kernel_rfl) (fun _ _ _ h => h) (Or.inl ⟨by rfl, ?y3Q⟩) hHeld ?r3Q
    case y3Q => (intro w hSw; (try dsimp only at hSw); go_simp; first | done | with_reducible rfl)
    (try simp only [Act.put, List.setIfInBounds_toArray, List.set_cons_zero, List.set_cons_succ])
    refine wpAnyH_take_at (i := 4) (v := ?v4Q) rfl (by kernel_rfl) (by kernel_rfl) (by kernel_rfl) (fun _ _ _ h => h) (Or.inl ⟨by rfl, ?y4Q⟩) hHeld ?r4Q
    case y4Q => (intro w hSw; (try dsimp only at hSw); go_simp; first | done | with_reducible rfl)
    (try simp only [Act.put, List.setIfInBounds_toArray, List.set_cons_zero, List.set_cons_succ])
    refine wpAnyH_take_at (i := 5) (v := ?v5Q) rfl (by kernel_rfl) (by kernel_rfl) (by kernel_rfl) (fun _ _ _ h => h) (Or.inl ⟨by rfl, ?y5Q⟩) hHeld ?r5Q
    case y5Q => (intro w hSw; (try dsimp only at hSw); go_simp; first | done | with_reducible rfl)
    (try simp only [Act.put, List.setIfInBounds_toArray, List.set_cons_zero, List.set_cons_succ])
    refine wpAnyH_take_at (i := 6) (v := ?v6Q) rfl (by kernel_rfl) (by kernel_rfl) (by kernel_rfl) (fun _ _ _ h => h) (Or.inl ⟨by rfl, ?y6Q⟩) hHeld ?r6Q
    case y6Q => (intro w hSw; (try dsimp only at hSw); go_simp; first | done | with_reducible rfl)
    (try simp only [Act.put, List.setIfInBounds_toArray, List.set_cons_zero, List.set_cons_succ])
    refine wpAnyH_take_at (i := 7) (v := ?v7Q) rfl (by kernel_rfl) (by kernel_rfl) (by kernel_rfl) (fun _ _ _ h => h) (Or.inl ⟨by rfl, ?y7Q⟩) hHeld ?r7Q
    case y7Q => (intro w hSw; (try dsimp only at hSw); go_simp; first | done | with_reducible rfl)
    (try simp only [Act.put, List.setIfInBounds_toArray, List.set_cons_zero, List.set_cons_succ])
    refine wpAnyH_take_at (i := 8) (v := ?v8Q) rfl (by kernel_rfl) (by kernel_rfl) (by kernel_rfl) (fun _ _ _ h => h) (Or.inl ⟨by rfl, ?y8Q⟩) hHeld ?r8Q
    case y8Q => (intro w hSw; (try dsimp only at hSw); go_simp; first | done | with_reducible rfl)
    (try simp only [Act.put, List.setIfInBounds_toArray, List.set_cons_zero, List.set_cons_succ])
    refine wpAnyH_take_at (i := 9) (v := ?v9Q) rfl (by kernel_rfl) (by kernel_rfl) (by kernel_rfl) (fun _ _ _ h => h) (Or.inl ⟨by rfl, ?y9Q⟩) hHeld ?r9Q
    case y9Q => (intro w hSw; (try dsimp only at hSw); go_simp; first | done | with_reducible rfl)
    (try simp only [Act.put, List.setIfInBounds_toArray, List.set_cons_zero, List.set_cons_succ])
    refine wpAnyH_take_at (i := 10) (v := ?v10Q) rfl (by kernel_rfl) (by kernel_rfl) (by kernel_rfl) (fun _ _ _ h => h) (Or.inl ⟨by rfl, ?y10Q⟩) hHeld ?r10Q
    case y10Q => (intro w hSw; (try dsimp only at hSw); go_simp; first | done | with_reducible rfl)
    (try simp only [Act.put, List.setIfInBounds_toArray, List.set_cons_zero, List.set_cons_succ])
    refine wpAnyH_take_at (i := 11) (v := ?v11Q) rfl (by kernel_rfl) (by kernel_rfl) (by kernel_rfl) (fun _ _ _ h => h) (Or.inl ⟨by rfl, ?y11Q⟩) hHeld ?r11Q
    case y11Q => (intro w hSw; (try dsimp only at hSw); go_simp; first | done | with_reducible rfl)
    (try simp only [Act.put, List.setIfInBounds_toArray, List.set_cons_zero, List.set_cons_succ])
    refine wpAnyH_take_at (i := 12) (v := ?v12Q) rfl (by kernel_rfl) (by kernel_rfl) (by kernel_rfl) (fun _ _ _ h => h) (Or.inl ⟨by rfl, ?y12Q⟩) hHeld ?r12Q
    case y12Q => (intro w hSw; (try dsimp only at hSw); go_simp; first | done | with_reducible rfl)
    (try simp only [Act.put, List.setIfInBounds_toArray, List.set_cons_zero, List.set_cons_succ])
    refine wpAnyH_take_at (i := 14) (v := ?v14Q) rfl (by kernel_rfl) (by kernel_rfl) (by kernel_rfl) (fun _ _ _ h => h) (Or.inl ⟨by rfl, ?y14Q⟩) hHeld ?r14Q
    case y14Q => (intro w hSw; (try dsimp only at hSw); go_simp; first | done | with_reducible rfl)
    (try simp only [Act.put, List.setIfInBounds_toArray, List.set_cons_zero, List.set_cons_succ])
    refine wpAnyH_ready (rs := [13, 15]) (by kernel_rfl) (by simp) (AllReadyH.cons (get_at rfl) (fun K hK => ?_) (AllReadyH.cons (get_at rfl) (fun K hK => ?_) AllReadyH.nil))
    · go_simp
      refine hK.out _ _ ?s13QX (fun hHeld => ?_)
      case s13QX => exact hHeld
      clear hK K
      (try simp only [Act.put, List.setIfInBounds_toArray, List.set_cons_zero, List.set_cons_succ])
      refine wpAnyH_one (i := 15) (by kernel_rfl) rfl (fun K hK => ?_)
      go_simp
      refine hK.out _ _ ?s15QX (fun hHeld => ?_)
      case s15QX => exact HK2.out _
      clear hK K
      (try simp only [Act.put, List.setIfInBounds_toArray, List.set_cons_zero, List.set_cons_succ])
      refine wpAnyH_one (i := 16) (by kernel_rfl) rfl (fun K hK => ?_)
      refine step_append_tail rfl (.tmp 118) (.tmp 120) 38 rfl 29 i0 _ 6 48 Tryd.underlying38 hi0 hz0 hz1' hz2 rfl (by decide) (.slice ao ((addL L bn ⟨4, head, who, an, bn, via⟩) an).length cap) ((addL L bn ⟨4, head, who, an, bn, via⟩) an).length (rlCells ((addL L bn ⟨4, head, who, an, bn, via⟩) an)) (by simp [Act.eval, Act.put]) (Hown.out _ (((Keeps.refl _ _).drew).alloc _)) ⟨wc.heap.size, 0, none⟩ 1 1 [.int .i64 4, .int .i64 head, .int .i64 who, .int .i64 an, .int .i64 bn, .int .i64 via] (by simp [Act.eval, Act.put]) rfl (cells_new _ _ _) (by intro u hu; simp only [List.mem_cons, List.not_mem_nil, or_false] at hu; rcases hu with rfl | rfl | rfl | rfl | rfl | rfl <;> rfl) (by omega) (by unfold maxLen; omega) (by omega) ?_
      intro ao' cap' w2 hown hgrow hfp
      obtain ⟨e1, e3, e4, e5, HP⟩ := HG.out _ _ _ _ (((Keeps.refl _ _).drew).alloc _) hown hgrow hfp
      clear hown hgrow hfp
      refine hK.out _ _ ?s16QX (fun hHeld => ?_)
      case s16QX => exact e1
      clear hK K
      (try simp only [Act.put, List.setIfInBounds_toArray, List.set_cons_zero, List.set_cons_succ])
      refine wpAnyH_take_at (i := 17) (v := ?v17QX) rfl (by kernel_rfl) (by kernel_rfl) (by kernel_rfl) (fun _ _ _ h => h) (Or.inl ⟨by rfl, ?y17QX⟩) hHeld ?r17QX
      case y17QX => (intro w hSw; (try dsimp only at hSw); go_simp; first | done | with_reducible rfl)
      (try simp only [Act.put, List.setIfInBounds_toArray, List.set_cons_zero, List.set_cons_succ])
      refine wpAnyH_one (i := 18) (by kernel_rfl) rfl (fun K hK => ?_)
      go_simp
      refine hK.out _ _ ?s18QX (fun hHeld => ?_)
      case s18QX => exact e5
      clear hK K
      (try simp only [Act.put, List.setIfInBounds_toArray, List.set_cons_zero, List.set_cons_succ])
      refine wpAnyH_done (by kernel_rfl) ?_ _
      refine NoPanic.normal ?_
      go_wp2_with fail
      go_end0
      exact HP.out
    · go_simp
      refine hK.out _ _ ?s15QZ (fun hHeld => ?_)
      case s15QZ => exact HK2.out _
      clear hK K
      (try simp only [Act.put, List.setIfInBounds_toArray, List.set_cons_zero, List.set_cons_succ])
      refine wpAnyH_one (i := 13) (by kernel_rfl) rfl (fun K hK => ?_)
      go_simp
      refine hK.out _ _ ?s13QZ (fun hHeld => ?_)
      case s13QZ => exact hHeld
      clear hK K
      (try simp only [Act.put, List.setIfInBounds_toArray, List.set_cons_zero, List.set_cons_succ])
      refine wpAnyH_one (i := 16) (by kernel_rfl) rfl (fun K hK => ?_)
      refine step_append_tail rfl (.tmp 118) (.tmp 120) 38 rfl 29 i0 _ 6 48 Tryd.underlying38 hi0 hz0 hz1' hz2 rfl (by decide) (.slice ao ((addL L bn ⟨4, head, who, an, bn, via⟩) an).length cap) ((addL L bn ⟨4, head, who, an, bn, via⟩) an).length (rlCells ((addL L bn ⟨4, head, who, an, bn, via⟩) an)) (by simp [Act.eval, Act.put]) (Hown.out _ (((Keeps.refl _ _).drew).alloc _)) ⟨wc.heap.size, 0, none⟩ 1 1 [.int .i64 4, .int .i64 head, .int .i64 who, .int .i64 an, .int .i64 bn, .int .i64 via] (by simp [Act.eval, Act.put]) rfl (cells_new _ _ _) (by intro u hu; simp only [List.mem_cons, List.not_mem_nil, or_false] at hu; rcases hu with rfl | rfl | rfl | rfl | rfl | rfl <;> rfl) (by omega) (by unfold maxLen; omega) (by omega) ?_
      intro ao' cap' w2 hown hgrow hfp
      obtain ⟨e1, e3, e4, e5, HP⟩ := HG.out _ _ _ _ (((Keeps.refl _ _).drew).alloc _) hown hgrow hfp
      clear hown hgrow hfp
      refine hK.out _ _ ?s16QZ (fun hHeld => ?_)
      case s16QZ => exact e1
      clear hK K
      (try simp only [Act.put, List.setIfInBounds_toArray, List.set_cons_zero, List.set_cons_succ])
      refine wpAnyH_take_at (i := 17) (v := ?v17QZ) rfl (by kernel_rfl) (by kernel_rfl) (by kernel_rfl) (fun _ _ _ h => h) (Or.inl ⟨by rfl, ?y17QZ⟩) hHeld ?r17QZ
      case y17QZ => (intro w hSw; (try dsimp only at hSw); go_simp; first | done | with_reducible rfl)
      (try simp only [Act.put, List.setIfInBounds_toArray, List.set_cons_zero, List.set_cons_succ])
      refine wpAnyH_one (i := 18) (by kernel_rfl) rfl (fun K hK => ?_)
      go_simp
      refine hK.out _ _ ?s18QZ (fun hHeld => ?_)
      case s18QZ => exact e5
      clear hK K
      (try simp only [Act.put, List.setIfInBounds_toArray, List.set_cons_zero, List.set_cons_succ])
      refine wpAnyH_done (by kernel_rfl) ?_ _
      refine NoPanic.normal ?_
      go_wp2_with fail
      go_end0
      exact HP.out
set_option maxRecDepth 100000 in
set_option maxHeartbeats 3200000 in
theorem sput_same (h : SemAt W M vr L s vq) (hs : s.steps ≤ 10000000000000000) (hL : ∀ i, (L i).length ≤ 1000000) (head who via : Int) (an : Nat) (ha : an < M.N) :
    Calls Tryd.prog 44 #[.pointer (some ⟨M.mb, 0, none⟩), .agg #[.int .i64 4, .int .i64 head, .int .i64 who, .int .i64 an, .int .i64 an, .int .i64 via]] W (PutPost M vr (addL L an ⟨4, head, who, an, an, via⟩) vq s.tick W) := by
  have hP64 := h.hP
  have hK64 := h.hK
  have hNle : M.N ≤ 64 * 64 := Nat.mul_le_mul hP64 hK64
  have hbx := PutAt.box h ⟨4, head, who, an, an, via⟩
  obtain ⟨n0, n1, n2, n3⟩ := hbx.at_.mcells
  obtain ⟨o0, o1, o2, o3⟩ := hbx.at_.ocells
  have fo := hbx.at_.free.2 3
  obtain ⟨r0, r1, r2, r3, r4, r5⟩ := hbx.rule
  have htk := hbx.tick
  rw [show ((s.steps + 1 : Nat) : Int) = (s.steps : Int) + 1 from by omega] at htk
  have hwt : IntKind.i64.wrap ((s.steps : Int) + 1) = (s.steps : Int) + 1 := IntWalk.i64_in _ (by omega)
  unfold ruleObj at *
  simp only [] at n0 n1 n2 n3 o0 o1 o2 o3 fo r0 r1 r2 r3 r4 r5 htk
  clear hbx
  obtain ⟨i0, hi0, hz0, hz1', hz2⟩ := info_parts rlInfo
  have haI : (an : Int) < (M.N : Int) := by omega
  go_enter Tryd.func44, Tryd.ntmps44
  go_upto_region 2 with fail
  generalize (W.alloc (.cells #[.int .i64 4, .int .i64 head, .int .i64 who, .int .i64 an, .int .i64 an, .int .i64 via] 29)).setCell ⟨M.mo, 3, none⟩ (.int .i64 ((s.steps : Int) + 1)) = wq at htk ⊢
  clear n0 n1 n2 n3 o0 o1 o2 o3 fo r0 r1 r2 r3 r4 r5 h
  have HQ := Lib.hid htk
  obtain ⟨ao, cap, hv, hle, hmx⟩ := htk.at_.rowV (i := an) (by omega)
  have hlen : (L an).length ≤ 1000001 := Nat.le_succ_of_le (hL _)
  have hS0 : (fun w' => w'.cell? ⟨M.mb, 1, none⟩ = some (.slice (some ⟨M.bb, 0, none⟩) M.N M.N) ∧ w'.cell? ⟨M.mb, 2, none⟩ = some (.slice (some ⟨M.vb, 0, none⟩) M.K M.K) ∧ w'.cell? ⟨W.heap.size, 0, none⟩ = some (.int .i64 4) ∧ w'.cell? ⟨W.heap.size, 1, none⟩ = some (.int .i64 head) ∧ w'.cell? ⟨W.heap.size, 2, none⟩ = some (.int .i64 who) ∧ w'.cell? ⟨W.heap.size, 3, none⟩ = some (.int .i64 an) ∧ w'.cell? ⟨W.heap.size, 4, none⟩ = some (.int .i64 an) ∧ w'.cell? ⟨W.heap.size, 5, none⟩ = some (.int .i64 via)) wq.drew := (htk.quiet ((Keeps.refl _ _).drew)).rd.cells
  have HK2 : Hid (∀ o, (fun w' => w'.cell? ⟨M.mb, 1, none⟩ = some (.slice (some ⟨M.bb, 0, none⟩) M.N M.N) ∧ w'.cell? ⟨M.mb, 2, none⟩ = some (.slice (some ⟨M.vb, 0, none⟩) M.K M.K) ∧ w'.cell? ⟨W.heap.size, 0, none⟩ = some (.int .i64 4) ∧ w'.cell? ⟨W.heap.size, 1, none⟩ = some (.int .i64 head) ∧ w'.cell? ⟨W.heap.size, 2, none⟩ = some (.int .i64 who) ∧ w'.cell? ⟨W.heap.size, 3, none⟩ = some (.int .i64 an) ∧ w'.cell? ⟨W.heap.size, 4, none⟩ = some (.int .i64 an) ∧ w'.cell? ⟨W.heap.size, 5, none⟩ = some (.int .i64 via)) (wq.drew.alloc o)) := fun o => (HQ.out.quiet (((Keeps.refl _ _).drew).alloc o)).rd.cells
  have pba : wq.cell? ⟨M.bb, an, none⟩ = some (.slice ao (L an).length cap) := by rw [← hv]; exact htk.rd.bc an ha
  have pfa : wq.frozen? ⟨M.bb, an, none⟩ = false := htk.rd.bf an
  have lb : M.bb < wq.heap.size := lt_of_cell pba
  have Hown : Hid (∀ W', Keeps (fun _ => False) wq W' → TailRow W' 29 6 (.slice ao (L an).length cap) (L an).length (rlCells (L an))) := fun W' hk => by
    have := (HQ.out.at_.keeps hk).rows (an) (by omega)
    rw [hv] at this
    exact this
  have HG : Hid (∀ W1 W2 ao' cap', Keeps (fun _ => False) wq W1 → TailRow W2 29 6 (.slice ao' ((L an).length + 1) cap') ((L an).length + 1) (rlCells (L an) ++ [.int .i64 4, .int .i64 head, .int .i64 who, .int .i64 an, .int .i64 an, .int .i64 via]) → W1.grownBy W2 (Value.slice ao (L an).length cap).ownBlock → (∀ k, (Value.slice ao' ((L an).length + 1) cap').ownBlock = some k → (Value.slice ao (L an).length cap).ownBlock = some k ∨ W1.heap.size ≤ k) →
      (fun w' => w'.cell? ⟨M.mb, 1, none⟩ = some (.slice (some ⟨M.bb, 0, none⟩) M.N M.N) ∧ w'.cell? ⟨M.mb, 2, none⟩ = some (.slice (some ⟨M.vb, 0, none⟩) M.K M.K) ∧ w'.cell? ⟨W.heap.size, 0, none⟩ = some (.int .i64 4) ∧ w'.cell? ⟨W.heap.size, 1, none⟩ = some (.int .i64 head) ∧ w'.cell? ⟨W.heap.size, 2, none⟩ = some (.int .i64 who) ∧ w'.cell? ⟨W.heap.size, 3, none⟩ = some (.int .i64 an) ∧ w'.cell? ⟨W.heap.size, 4, none⟩ = some (.int .i64 an) ∧ w'.cell? ⟨W.heap.size, 5, none⟩ = some (.int .i64 via)) W2 ∧ W2.cell? ⟨M.bb, an, none⟩ = some (.slice ao (L an).length cap) ∧ W2.frozen? ⟨M.bb, an, none⟩ = false ∧ (fun w' => w'.cell? ⟨M.mb, 1, none⟩ = some (.slice (some ⟨M.bb, 0, none⟩) M.N M.N) ∧ w'.cell? ⟨M.mb, 2, none⟩ = some (.slice (some ⟨M.vb, 0, none⟩) M.K M.K) ∧ w'.cell? ⟨W.heap.size, 0, none⟩ = some (.int .i64 4) ∧ w'.cell? ⟨W.heap.size, 1, none⟩ = some (.int .i64 head) ∧ w'.cell? ⟨W.heap.size, 2, none⟩ = some (.int .i64 who) ∧ w'.cell? ⟨W.heap.size, 3, none⟩ = some (.int .i64 an) ∧ w'.cell? ⟨W.heap.size, 4, none⟩ = some (.int .i64 an) ∧ w'.cell? ⟨W.heap.size, 5, none⟩ = some (.int .i64 via)) (W2.setCell ⟨M.bb, an, none⟩ (.slice ao' ((L an).length + 1) cap')) ∧ Hid (PutPost M vr (addL L an ⟨4, head, who, an, an, via⟩) vq s.tick W (.returned (.tuple #[])) (W2.setCell ⟨M.bb, an, none⟩ (.slice ao' ((L an).length + 1) cap')))) := fun W1 W2 ao' cap' k1 ho hgr hfp => by
    rw [← hv] at hgr hfp
    obtain ⟨a1, a2⟩ := HQ.out.grow (g := an) (by omega) k1 ho hgr hfp
    have a3 := a2 ⟨M.bb, an, none⟩ (.inl ⟨ha, rfl⟩)
    exact ⟨a1.cells, by rw [← hv]; exact a1.bc an ha, a1.bf an, a3.out.rd.cells, a3.out.post rfl⟩
  clear htk hv
  obtain ⟨p1, p2, p3, p4, p5, p6, p7, p8⟩ := HQ.out.rd.cells
  simp only [] at p3 p4 p5 p6 p7 p8
  go_upto_region 12 with fail
  clear p1 p2 p3 p4 p5 p6 p7 p8
  refine wp_region_noPanic ?_
  refine wp_region_held_drew (S := fun w' => w'.cell? ⟨M.mb, 1, none⟩ = some (.slice (some ⟨M.bb, 0, none⟩) M.N M.N) ∧ w'.cell? ⟨M.mb, 2, none⟩ = some (.slice (some ⟨M.vb, 0, none⟩) M.K M.K) ∧ w'.cell? ⟨W.heap.size, 0, none⟩ = some (.int .i64 4) ∧ w'.cell? ⟨W.heap.size, 1, none⟩ = some (.int .i64 head) ∧ w'.cell? ⟨W.heap.size, 2, none⟩ = some (.int .i64 who) ∧ w'.cell? ⟨W.heap.size, 3, none⟩ = some (.int .i64 an) ∧ w'.cell? ⟨W.heap.size, 4, none⟩ = some (.int .i64 an) ∧ w'.cell? ⟨W.heap.size, 5, none⟩ = some (.int .i64 via)) (by kernel_rfl) hS0 (fun hHeld => ?_)
  refine wpAnyH_take_at (i := 0) (v := ?v0) rfl (by kernel_rfl) (by kernel_rfl) (by kernel_rfl) (fun _ _ _ h => h) (Or.inl ⟨by rfl, ?y0⟩) hHeld ?r0
  case y0 => (intro w hSw; (try dsimp only at hSw); go_simp; first | done | with_reducible rfl)
  (try simp only [Act.put, List.setIfInBounds_toArray, List.set_cons_zero, List.set_cons_succ])
  refine wpAnyH_take_at (i := 1) (v := ?v1) rfl (by kernel_rfl) (by kernel_rfl) (by kernel_rfl) (fun _ _ _ h => h) (Or.inl ⟨by rfl, ?y1⟩) hHeld ?r1
  case y1 => (intro w hSw; (try dsimp only at hSw); go_simp; first | done | with_reducible rfl)
  (try simp only [Act.put, List.setIfInBounds_toArray, List.set_cons_zero, List.set_cons_succ])
  refine wpAnyH_take_at (i := 2) (v := ?v2) rfl (by kernel_rfl) (by kernel_rfl) (by kernel_rfl) (fun _ _ _ h => h) (Or.inl ⟨by rfl, ?y2⟩) hHeld ?r2
  case y2 => (intro w hSw; (try dsimp only at hSw); go_simp; first | done | with_reducible rfl)
  (try simp only [Act.put, List.setIfInBounds_toArray, List.set_cons_zero, List.set_cons_succ])
  refine wpAnyH_take_at (i := 3) (v := ?v3) rfl (by kernel_rfl) (by kernel_rfl) (by kernel_rfl) (fun _ _ _ h => h) (Or.inl ⟨by rfl, ?y3⟩) hHeld ?r3
  case y3 => (intro w hSw; (try dsimp only at hSw); go_simp; first | done | with_reducible rfl)
  (try simp only [Act.put, List.setIfInBounds_toArray, List.set_cons_zero, List.set_cons_succ])
  refine wpAnyH_take_at (i := 4) (v := ?v4) rfl (by kernel_rfl) (by kernel_rfl) (by kernel_rfl) (fun _ _ _ h => h) (Or.inl ⟨by rfl, ?y4⟩) hHeld ?r4
  case y4 => (intro w hSw; (try dsimp only at hSw); go_simp; first | done | with_reducible rfl)
  (try simp only [Act.put, List.setIfInBounds_toArray, List.set_cons_zero, List.set_cons_succ])
  refine wpAnyH_take_at (i := 5) (v := ?v5) rfl (by kernel_rfl) (by kernel_rfl) (by kernel_rfl) (fun _ _ _ h => h) (Or.inl ⟨by rfl, ?y5⟩) hHeld ?r5
  case y5 => (intro w hSw; (try dsimp only at hSw); go_simp; first | done | with_reducible rfl)
  (try simp only [Act.put, List.setIfInBounds_toArray, List.set_cons_zero, List.set_cons_succ])
  refine wpAnyH_take_at (i := 6) (v := ?v6) rfl (by kernel_rfl) (by kernel_rfl) (by kernel_rfl) (fun _ _ _ h => h) (Or.inl ⟨by rfl, ?y6⟩) hHeld ?r6
  case y6 => (intro w hSw; (try dsimp only at hSw); go_simp; first | done | with_reducible rfl)
  (try simp only [Act.put, List.setIfInBounds_toArray, List.set_cons_zero, List.set_cons_succ])
  refine wpAnyH_take_at (i := 7) (v := ?v7) rfl (by kernel_rfl) (by kernel_rfl) (by kernel_rfl) (fun _ _ _ h => h) (Or.inl ⟨by rfl, ?y7⟩) hHeld ?r7
  case y7 => (intro w hSw; (try dsimp only at hSw); go_simp; first | done | with_reducible rfl)
  (try simp only [Act.put, List.setIfInBounds_toArray, List.set_cons_zero, List.set_cons_succ])
  refine wpAnyH_take_at (i := 8) (v := ?v8) rfl (by kernel_rfl) (by kernel_rfl) (by kernel_rfl) (fun _ _ _ h => h) (Or.inl ⟨by rfl, ?y8⟩) hHeld ?r8
  case y8 => (intro w hSw; (try dsimp only at hSw); go_simp; first | done | with_reducible rfl)
  (try simp only [Act.put, List.setIfInBounds_toArray, List.set_cons_zero, List.set_cons_succ])
  refine wpAnyH_take_at (i := 9) (v := ?v9) rfl (by kernel_rfl) (by kernel_rfl) (by kernel_rfl) (fun _ _ _ h => h) (Or.inl ⟨by rfl, ?y9⟩) hHeld ?r9
  case y9 => (intro w hSw; (try dsimp only at hSw); go_simp; first | done | with_reducible rfl)
  (try simp only [Act.put, List.setIfInBounds_toArray, List.set_cons_zero, List.set_cons_succ])
  refine wpAnyH_take_at (i := 10) (v := ?v10) rfl (by kernel_rfl) (by kernel_rfl) (by kernel_rfl) (fun _ _ _ h => h) (Or.inl ⟨by rfl, ?y10⟩) hHeld ?r10
  case y10 => (intro w hSw; (try dsimp only at hSw); go_simp; first | done | with_reducible rfl)
  (try simp only [Act.put, List.setIfInBounds_toArray, List.set_cons_zero, List.set_cons_succ])
  refine wpAnyH_take_at (i := 11) (v := ?v11) rfl (by kernel_rfl) (by kernel_rfl) (by kernel_rfl) (fun _ _ _ h => h) (Or.inl ⟨by rfl, ?y11⟩) hHeld ?r11
  case y11 => (intro w hSw; (try dsimp only at hSw); go_simp; first | done | with_reducible rfl)
  (try simp only [Act.put, List.setIfInBounds_toArray, List.set_cons_zero, List.set_cons_succ])
  refine wpAnyH_take_at (i := 12) (v := ?v12) rfl (by kernel_rfl) (by kernel_rfl) (by kernel_rfl) (fun _ _ _ h => h) (Or.inl ⟨by rfl, ?y12⟩) hHeld ?r12
  case y12 => (intro w hSw; (try dsimp only at hSw); go_simp; first | done | with_reducible rfl)
  (try simp only [Act.put, List.setIfInBounds_toArray, List.set_cons_zero, List.set_cons_succ])
  refine wpAnyH_take_at (i := 14) (v := ?v14) rfl (by kernel_rfl) (by kernel_rfl) (by kernel_rfl) (fun _ _ _ h => h) (Or.inl ⟨by rfl, ?y14⟩) hHeld ?r14
  case y14 => (intro w hSw; (try dsimp only at hSw); go_simp; first | done | with_reducible rfl)
  (try simp only [Act.put, List.setIfInBounds_toArray, List.set_cons_zero, List.set_cons_succ])
  refine wpAnyH_ready (rs := [13, 15]) (by kernel_rfl) (by simp) (AllReadyH.cons (get_at rfl) (fun K hK => ?_) (AllReadyH.cons (get_at rfl) (fun K hK => ?_) AllReadyH.nil))
  · go_simp
    refine hK.out _ _ ?s13X (fun hHeld => ?_)
    case s13X => exact hHeld
    clear hK K
    (try simp only [Act.put, List.setIfInBounds_toArray, List.set_cons_zero, List.set_cons_succ])
    refine wpAnyH_one (i := 15) (by kernel_rfl) rfl (fun K hK => ?_)
    go_simp
    refine hK.out _ _ ?s15X (fun hHeld => ?_)
    case s15X => exact HK2.out _
    clear hK K
    (try simp only [Act.put, List.setIfInBounds_toArray, List.set_cons_zero, List.set_cons_succ])
    refine wpAnyH_one (i := 16) (by kernel_rfl) rfl (fun K hK => ?_)
    refine step_append_tail rfl (.tmp 118) (.tmp 120) 38 rfl 29 i0 _ 6 48 Tryd.underlying38 hi0 hz0 hz1' hz2 rfl (by decide) (.slice ao (L an).length cap) (L an).length (rlCells (L an)) (by simp [Act.eval, Act.put]) (Hown.out _ (((Keeps.refl _ _).drew).alloc _)) ⟨wq.heap.size, 0, none⟩ 1 1 [.int .i64 4, .int .i64 head, .int .i64 who, .int .i64 an, .int .i64 an, .int .i64 via] (by simp [Act.eval, Act.put]) rfl (cells_new _ _ _) (by intro u hu; simp only [List.mem_cons, List.not_mem_nil, or_false] at hu; rcases hu with rfl | rfl | rfl | rfl | rfl | rfl <;> rfl) (by omega) (by unfold maxLen; omega) (by omega) ?_
    intro ao' cap' w2 hown hgrow hfp
    obtain ⟨e1, e3, e4, e5, HP⟩ := HG.out _ _ _ _ (((Keeps.refl _ _).drew).alloc _) hown hgrow hfp
    clear hown hgrow hfp
    refine hK.out _ _ ?s16X (fun hHeld => ?_)
    case s16X => exact e1
    clear hK K
    (try simp only [Act.put, List.setIfInBounds_toArray, List.set_cons_zero, List.set_cons_succ])
    refine wpAnyH_take_at (i := 17) (v := ?v17X) rfl (by kernel_rfl) (by kernel_rfl) (by kernel_rfl) (fun _ _ _ h => h) (Or.inl ⟨by rfl, ?y17X⟩) hHeld ?r17X
    case y17X => (intro w hSw; (try dsimp only at hSw); go_simp; first | done | with_reducible rfl)
    (try simp only [Act.put, List.setIfInBounds_toArray, List.set_cons_zero, List.set_cons_succ])
    refine wpAnyH_one (i := 18) (by kernel_rfl) rfl (fun K hK => ?_)
    go_simp
    refine hK.out _ _ ?s18X (fun hHeld => ?_)
    case s18X => exact e5
    clear hK K
    (try simp only [Act.put, List.setIfInBounds_toArray, List.set_cons_zero, List.set_cons_succ])
    refine wpAnyH_done (by kernel_rfl) ?_ _
    refine NoPanic.normal ?_
    go_wp2_with fail
    go_end0
    exact HP.out
  · go_simp
    refine hK.out _ _ ?s15Z (fun hHeld => ?_)
    case s15Z => exact HK2.out _
    clear hK K
    (try simp only [Act.put, List.setIfInBounds_toArray, List.set_cons_zero, List.set_cons_succ])
    refine wpAnyH_one (i := 13) (by kernel_rfl) rfl (fun K hK => ?_)
    go_simp
    refine hK.out _ _ ?s13Z (fun hHeld => ?_)
    case s13Z => exact hHeld
    clear hK K
    (try simp only [Act.put, List.setIfInBounds_toArray, List.set_cons_zero, List.set_cons_succ])
    refine wpAnyH_one (i := 16) (by kernel_rfl) rfl (fun K hK => ?_)
    refine step_append_tail rfl (.tmp 118) (.tmp 120) 38 rfl 29 i0 _ 6 48 Tryd.underlying38 hi0 hz0 hz1' hz2 rfl (by decide) (.slice ao (L an).length cap) (L an).length (rlCells (L an)) (by simp [Act.eval, Act.put]) (Hown.out _ (((Keeps.refl _ _).drew).alloc _)) ⟨wq.heap.size, 0, none⟩ 1 1 [.int .i64 4, .int .i64 head, .int .i64 who, .int .i64 an, .int .i64 an, .int .i64 via] (by simp [Act.eval, Act.put]) rfl (cells_new _ _ _) (by intro u hu; simp only [List.mem_cons, List.not_mem_nil, or_false] at hu; rcases hu with rfl | rfl | rfl | rfl | rfl | rfl <;> rfl) (by omega) (by unfold maxLen; omega) (by omega) ?_
    intro ao' cap' w2 hown hgrow hfp
    obtain ⟨e1, e3, e4, e5, HP⟩ := HG.out _ _ _ _ (((Keeps.refl _ _).drew).alloc _) hown hgrow hfp
    clear hown hgrow hfp
    refine hK.out _ _ ?s16Z (fun hHeld => ?_)
    case s16Z => exact e1
    clear hK K
    (try simp only [Act.put, List.setIfInBounds_toArray, List.set_cons_zero, List.set_cons_succ])
    refine wpAnyH_take_at (i := 17) (v := ?v17Z) rfl (by kernel_rfl) (by kernel_rfl) (by kernel_rfl) (fun _ _ _ h => h) (Or.inl ⟨by rfl, ?y17Z⟩) hHeld ?r17Z
    case y17Z => (intro w hSw; (try dsimp only at hSw); go_simp; first | done | with_reducible rfl)
    (try simp only [Act.put, List.setIfInBounds_toArray, List.set_cons_zero, List.set_cons_succ])
    refine wpAnyH_one (i := 18) (by kernel_rfl) rfl (fun K hK => ?_)
    go_simp
    refine hK.out _ _ ?s18Z (fun hHeld => ?_)
    case s18Z => exact e5
    clear hK K
    (try simp only [Act.put, List.setIfInBounds_toArray, List.set_cons_zero, List.set_cons_succ])
    refine wpAnyH_done (by kernel_rfl) ?_ _
    refine NoPanic.normal ?_
    go_wp2_with fail
    go_end0
    exact HP.out
end
end Go.Proofs.YtaabmkebbnkonaaDoor
/-
  The maker's put, of any rule that may be.
-/
set_option linter.unusedVariables false
set_option linter.unusedSimpArgs false
set_option linter.unnecessarySimpa false
namespace Go.Proofs.YtaabmkebbnkonaaDoor
open Go.ChangeShapes Go.WideShapes Go.ChangeAt Go.RowKit Go.Deep SetPlain
theorem addL_put {N : Nat} {L : Nat → List Rl} {r : Rl} {g : Nat} (h : ∀ i, keepB N r i = decide (i = g)) : addL L g r = putRow N r L := by
  funext i
  unfold addL putRow
  rw [h i]
  simp
theorem addL_put2 {N : Nat} {L : Nat → List Rl} {r : Rl} {g g2 : Nat} (hne : g ≠ g2) (h : ∀ i, keepB N r i = (decide (i = g) || decide (i = g2))) : addL (addL L g r) g2 r = putRow N r L := by
  funext i
  unfold addL putRow
  rw [h i]
  by_cases e : i = g
  · subst e; rw [if_neg hne]; simp
  · by_cases e2 : i = g2
    · subst e2; simp [e]
    · simp [e, e2]
theorem putRow_none {N : Nat} {L : Nat → List Rl} {r : Rl} (h : ∀ i, keepB N r i = false) : putRow N r L = L := by
  funext i
  unfold putRow
  rw [h i]; simp
section
variable {W : World} {M : Mk} {vr : Nat → Value} {L : Nat → List Rl} {s : St} {vq : Value}
set_option maxRecDepth 100000 in
set_option maxHeartbeats 1600000 in
theorem sput_member (h : SemAt W M vr L s vq) (hs : s.steps ≤ 10000000000000000) (a b via : Int) (hn wn : Nat) (hh : hn ≤ 1000000000) (hw : wn ≤ 1000000000) (hf : Few (s.tick.add M.N M.P hn wn)) :
    Calls Tryd.prog 44 #[.pointer (some ⟨M.mb, 0, none⟩), .agg #[.int .i64 1, .int .i64 hn, .int .i64 wn, .int .i64 a, .int .i64 b, .int .i64 via]] W (PutPost M vr L vq (s.tick.add M.N M.P hn wn) W) := by
  have hbx := PutAt.box h ⟨1, hn, wn, a, b, via⟩
  obtain ⟨n0, n1, n2, n3⟩ := hbx.at_.mcells
  obtain ⟨o0, o1, o2, o3⟩ := hbx.at_.ocells
  have fo := hbx.at_.free.2 3
  obtain ⟨r0, r1, r2, r3, r4, r5⟩ := hbx.rule
  have htk := hbx.tick
  rw [show ((s.steps + 1 : Nat) : Int) = (s.steps : Int) + 1 from by omega] at htk
  have hwt : IntKind.i64.wrap ((s.steps : Int) + 1) = (s.steps : Int) + 1 := IntWalk.i64_in _ (by omega)
  unfold ruleObj at *
  simp only [] at n0 n1 n2 n3 o0 o1 o2 o3 fo r0 r1 r2 r3 r4 r5 htk
  clear hbx
  go_enter Tryd.func44, Tryd.ntmps44
  go_upto_region 2 with fail
  generalize (W.alloc (.cells #[.int .i64 1, .int .i64 hn, .int .i64 wn, .int .i64 a, .int .i64 b, .int .i64 via] 29)).setCell ⟨M.mo, 3, none⟩ (.int .i64 ((s.steps : Int) + 1)) = wq at htk ⊢
  clear n0 n1 n2 n3 o0 o1 o2 o3 fo r0 r1 r2 r3 r4 r5 h
  obtain ⟨p1, p2, p3, p4, p5, p6, p7, p8⟩ := htk.rd.cells
  simp only [] at p3 p4 p5 p6 p7 p8
  have HA := Lib.hid (sadd_spec htk.at_ hn wn hh hw hf)
  have HS := Lib.hid htk.step
  clear htk
  go_wp2_with fail
  refine HA.out.mono ?_
  rintro e W3 ⟨rfl, vq3, hat, hst⟩
  have HP : Hid (PutPost M vr L vq (s.tick.add M.N M.P hn wn) W (.returned (.tuple #[])) W3) := ⟨rfl, vr, vq3, hat, HS.out.trans hst⟩
  clear hat hst HA HS p1 p2 p3 p4 p5 p6 p7 p8
  go_wp2_with fail
  go_end0
  exact HP.out
theorem sput_spec (h : SemAt W M vr L s vq) (hL : ∀ i, (L i).length ≤ 1000000) (r : Rl) (hR : rightB M.P M.K r = true) (hf : Few (s.put M.N M.P r)) :
    Calls Tryd.prog 44 #[.pointer (some ⟨M.mb, 0, none⟩), .agg r.cells.toArray] W (PutPost M vr (putRow M.N r L) vq (s.put M.N M.P r) W) := by
  have hP64 := h.hP
  have hK64 := h.hK
  have hNle : M.N ≤ 64 * 64 := Nat.mul_le_mul hP64 hK64
  obtain ⟨⟨hh0, hh1⟩, hcase⟩ := right_iff hR
  have hNe : M.P * M.K = M.N := rfl
  rw [hNe] at hh1 hcase
  have hsteps : s.steps ≤ 10000000000000000 := by
    have h1 : s.steps ≤ (s.put M.N M.P r).steps := by
      unfold St.put
      split
      · exact ((Ext.tick s).trans (St.add_ext _ _ _)).steps
      · exact (Ext.tick s).steps
    have := hf.steps
    omega
  obtain ⟨kind, head, who, a, b, via⟩ := r
  show Calls Tryd.prog 44 #[.pointer (some ⟨M.mb, 0, none⟩), .agg #[.int .i64 kind, .int .i64 head, .int .i64 who, .int .i64 a, .int .i64 b, .int .i64 via]] W _
  simp only [] at hh0 hh1 hcase
  rcases hcase with ⟨k1, hw0, hw1⟩ | ⟨k2, ha0, ha1⟩ | ⟨k3, ha0, ha1, hv0, hv1⟩ | ⟨k4, ha0, ha1, hb0, hb1⟩
  · subst k1
    obtain ⟨hn, rfl⟩ : ∃ n : Nat, head = n := ⟨head.toNat, by omega⟩
    obtain ⟨wn, rfl⟩ : ∃ n : Nat, who = n := ⟨who.toNat, by omega⟩
    have e1 : s.put M.N M.P ⟨1, hn, wn, a, b, via⟩ = s.tick.add M.N M.P hn wn := by unfold St.put; rw [if_pos rfl]; rfl
    have e2 : putRow M.N ⟨1, hn, wn, a, b, via⟩ L = L := putRow_none fun i => by unfold keepB; split <;> simp
    rw [e2, e1]
    rw [e1] at hf
    exact sput_member h hsteps a b via hn wn (by omega) (by omega) hf
  · subst k2
    obtain ⟨an, rfl⟩ : ∃ n : Nat, a = n := ⟨a.toNat, by omega⟩
    have e1 : s.put M.N M.P ⟨2, head, who, an, b, via⟩ = s.tick := by unfold St.put; rw [if_neg (by simp only []; decide)]
    have e2 : putRow M.N ⟨2, head, who, an, b, via⟩ L = addL L an ⟨2, head, who, an, b, via⟩ := (addL_put fun i => by
      unfold keepB
      split
      · simp; omega
      · simp; omega).symm
    rw [e2, e1]
    exact sput_incl h hsteps hL head who b via an (by omega)
  · subst k3
    obtain ⟨an, rfl⟩ : ∃ n : Nat, a = n := ⟨a.toNat, by omega⟩
    obtain ⟨vn, rfl⟩ : ∃ n : Nat, via = n := ⟨via.toNat, by omega⟩
    have e1 : s.put M.N M.P ⟨3, head, who, an, b, vn⟩ = s.tick := by unfold St.put; rw [if_neg (by simp only []; decide)]
    have e2 : putRow M.N ⟨3, head, who, an, b, vn⟩ L = addL (addL L (M.N + vn) ⟨3, head, who, an, b, vn⟩) an ⟨3, head, who, an, b, vn⟩ := (addL_put2 (by omega) fun i => by
      unfold keepB
      split
      · have h1 : ¬ i = M.N + vn := by omega
        simp [h1]; omega
      · have h1 : ¬ i = an := by omega
        simp [h1]; omega).symm
    rw [e2, e1]
    exact sput_link h hsteps hL head who b an vn (by omega) (by omega)
  · subst k4
    obtain ⟨an, rfl⟩ : ∃ n : Nat, a = n := ⟨a.toNat, by omega⟩
    obtain ⟨bn, rfl⟩ : ∃ n : Nat, b = n := ⟨b.toNat, by omega⟩
    have e1 : s.put M.N M.P ⟨4, head, who, an, bn, via⟩ = s.tick := by unfold St.put; rw [if_neg (by simp only []; decide)]
    rw [e1]
    by_cases hne : bn = an
    · subst hne
      have e2 : putRow M.N ⟨4, head, who, bn, bn, via⟩ L = addL L bn ⟨4, head, who, bn, bn, via⟩ := (addL_put fun i => by
        unfold keepB
        split
        · simp; omega
        · simp; omega).symm
      rw [e2]
      exact sput_same h hsteps hL head who via bn (by omega)
    · have e2 : putRow M.N ⟨4, head, who, an, bn, via⟩ L = addL (addL L bn ⟨4, head, who, an, bn, via⟩) an ⟨4, head, who, an, bn, via⟩ := (addL_put2 hne fun i => by
        unfold keepB
        split
        · have h1 : ((an : Int) = (i : Int)) ↔ i = an := by omega
          have h2 : ((bn : Int) = (i : Int)) ↔ i = bn := by omega
          simp [h1, h2, Bool.or_comm]
        · have h1 : ¬ i = an := by omega
          have h2 : ¬ i = bn := by omega
          simp [h1, h2]).symm
      rw [e2]
      exact sput_both h hsteps hL head who via an bn (by omega) (by omega) hne
end
end Go.Proofs.YtaabmkebbnkonaaDoor
/-
  The walk of the maker's look.
-/
set_option linter.unusedVariables false
set_option linter.unusedSimpArgs false
set_option linter.unnecessarySimpa false
namespace Go.Proofs.YtaabmkebbnkonaaDoor
open Go.ChangeShapes Go.WideShapes Go.ChangeAt Go.RowKit Go.Deep SetPlain
section
variable {W : World} {M : Mk} {vr : Nat → Value} {L : Nat → List Rl} {s : St} {vq : Value}
set_option maxRecDepth 100000 in
set_option maxHeartbeats 3200000 in
theorem slook_spec (h : SemAt W M vr L s vq) (hT : TabIn W) (hTn : ¬ semFp M vr vq 0) (fr fw : Nat) (hf1 : fr < M.N) (hf2 : fw < M.P) (hK : 0 < M.K)
    (hB : ∀ r, r ∈ L fr → rightB M.P M.K r = true ∧ keepB M.N r fr = true) (hV : ∀ r, r ∈ L (M.N + fr % M.K) → rightB M.P M.K r = true ∧ keepB M.N r (M.N + fr % M.K) = true)
    (hF : Few (s.look M.N M.P M.K L (fr, fw))) :
    Calls Tryd.prog 45 #[.pointer (some ⟨M.mb, 0, none⟩), .agg #[.int .i64 fr, .int .i64 fw]] W (AddPostS M vr L vq (s.look M.N M.P M.K L (fr, fw)) W) := by
  have hP64 := h.hP
  have hK64 := h.hK
  have hNle : M.N ≤ 64 * 64 := Nat.mul_le_mul hP64 hK64
  obtain ⟨ao, cap, hv, hle, hmx⟩ := h.rowV (i := fr) (by omega)
  have hvm : fr % M.K < M.K := Nat.mod_lt _ hK
  obtain ⟨ao2, cap2, hv2, hle2, hmx2⟩ := h.rowV (i := M.N + fr % M.K) (by omega)
  unfold maxLen at hmx hmx2
  have k0 : Keeps (fun _ => False) W (W.alloc (.cells #[.int .i64 fr, .int .i64 fw] 88)) := (Keeps.refl _ _).alloc _
  have h1 := h.keeps k0
  have hL0 : LookF W M vr L vq W.heap.size (fr, fw) s vq (W.alloc (.cells #[.int .i64 fr, .int .i64 fw] 88)) :=
    ⟨h1, SemStep.quiet k0, by simp, by simp, fun hx => by have := SemMem.lt h _ hx; omega, hT.keeps k0 (fun x => x), hTn⟩
  have hL1 := hL0.quiet ((Keeps.refl _ _).drew)
  obtain ⟨m0, m1, m2, m3⟩ := h1.mcells
  have bc := h1.byCell hf1
  rw [hv] at bc
  have hf1I : (fr : Int) < (M.N : Int) := by omega
  have hbox : (W.alloc (.cells #[.int .i64 fr, .int .i64 fw] 88)).cell? ⟨W.heap.size, 0, none⟩ = some (.int .i64 fr) := hL0.f0
  have HL1 := Lib.hid hL1
  have HB := Lib.hid hB
  have HV := Lib.hid hV
  have HF := Lib.hid hF
  clear hL0 hL1 h h1 hT hTn k0 hB hV hF
  go_enter Tryd.func45, Tryd.ntmps45
  go_upto_region 1 with fail
  go_region
  go_wp2_with fail
  go_loopg [17] (L fr).length (fun g t wr => ∃ j : Nat, j ≤ (L fr).length ∧ g = (L fr).length - j ∧ t = .int .i64 j ∧ ∃ vq', Hid (LookF W M vr L vq W.heap.size (fr, fw) (St.byL M.N M.P M.K (fr, fw) ((L fr).take j) s) vq' wr))
  case atStart => exact ⟨0, Nat.zero_le _, rfl, rfl, vq, HL1.out⟩
  case round =>
    clear HL1
    obtain ⟨j, hj, rfl, rfl, vq', hat⟩ := hrel
    by_cases hlt : j < (L fr).length
    · obtain ⟨r, hr⟩ : ∃ r, (L fr)[j]? = some r := ⟨_, List.getElem?_eq_getElem hlt⟩
      obtain ⟨hR, hKeep⟩ := HB.out r (List.mem_of_getElem? hr)
      obtain ⟨e1, x1⟩ := St.byL_take (N := M.N) (P := M.P) (K := M.K) (f := (fr, fw)) (L fr) s hr
      have hfew := Few.down (x1.trans (St.viaL_ext (L (M.N + fr % M.K)) _)) HF.out
      have hlt0 := St.by1_ext (N := M.N) (P := M.P) (K := M.K) (f := (fr, fw)) (St.byL M.N M.P M.K (fr, fw) ((L fr).take j) s) r
      have hst1 := Nat.le_trans hlt0.steps hfew.steps
      have E1 := Lib.hid e1
      obtain ⟨g, k, rfl, c0, c1, c2, c3, c4, c5⟩ := hat.out.at_.rule (i := fr) (by omega) hv hr
      obtain ⟨⟨hh0, hh1⟩, hcase⟩ := right_iff hR
      have hk := keep_by hf1 hKeep
      obtain ⟨t, ht⟩ : ∃ t, St.byL M.N M.P M.K (fr, fw) ((L fr).take j) s = t := ⟨_, rfl⟩
      rw [ht] at hat hfew hst1 E1
      obtain ⟨hn, hhn⟩ : ∃ hn : Nat, r.head = hn := ⟨r.head.toNat, by omega⟩
      obtain ⟨kind, head, who, a, b, via⟩ := r
      simp only [] at hhn c0 c1 c2 c3 c4 c5 hh0 hh1 hcase hk
      subst hhn
      have hnN : hn < M.N := by unfold Mk.N; omega
      have hjI : (j : Int) < ((L fr).length : Int) := by omega
      have hwt : IntKind.i64.wrap ((t.steps : Int) + 1) = (t.steps : Int) + 1 := IntWalk.i64_in _ (by omega)
      clear e1 x1 hlt0 ht hR hKeep hr
      have hNe : M.N = M.P * M.K := rfl
      rw [← hNe] at hcase
      rcases hk with ⟨k2, ha⟩ | ⟨k3, ha⟩ | ⟨k4, ha⟩
      · subst k2
        have hby : t.by1 M.N M.P M.K (fr, fw) ⟨2, hn, who, a, b, via⟩ = t.tick.add M.N M.P hn fw := by unfold St.by1; rw [if_pos rfl]; rfl
        rw [hby] at hfew
        clear hcase ha
        have hbx : LookAt W M vr L vq W.heap.size (fr, fw) wr.heap.size ⟨2, hn, who, a, b, via⟩ t vq' (wr.alloc (.cells #[.int .i64 2, .int .i64 hn, .int .i64 who, .int .i64 a, .int .i64 b, .int .i64 via] 29)) := hat.out.box _
        obtain ⟨n0, n1, n2, n3⟩ := hbx.fact.at_.mcells
        obtain ⟨o0, o1, o2, o3⟩ := hbx.fact.at_.ocells
        have fo := hbx.fact.at_.free.2 3
        have htk := hbx.tick
        rw [show ((t.steps + 1 : Nat) : Int) = (t.steps : Int) + 1 from by omega] at htk
        clear hat hbx
        go_upto_region 5 with fail
        generalize (wr.alloc (.cells #[.int .i64 2, .int .i64 hn, .int .i64 who, .int .i64 a, .int .i64 b, .int .i64 via] 29)).setCell ⟨M.mo, 3, none⟩ (.int .i64 ((t.steps : Int) + 1)) = W2 at htk ⊢
        have HTK := Lib.hid htk
        obtain ⟨⟨q0, q1, q2⟩, ⟨q3, q4⟩, q5, q6, q7, q8, q9, q10⟩ := LookAt.rd HTK
        simp only [] at q3 q4 q5 q6 q7 q8 q9 q10
        clear htk n0 n1 n2 n3 o0 o1 o2 o3 fo c0 c1 c2 c3 c4 c5
        have HA := Lib.hid (LookAt.add HTK hn fw (by omega) (by omega) hfew)
        go_wp2_with fail
        refine HA.out.mono ?_
        rintro e W3 ⟨rfl, vq3, h3⟩
        clear HA
        have HN : Hid (LookF W M vr L vq W.heap.size (fr, fw) (St.byL M.N M.P M.K (fr, fw) ((L fr).take (j + 1)) s) vq3 W3) := by
          rw [E1.out, hby]
          exact h3.out.fact
        clear h3 HTK E1
        go_wp2_with fail
        go_roundg ((L fr).length - (j + 1))
        case measure => omega
        case rel => exact ⟨j + 1, by omega, rfl, by go_num, vq3, HN⟩
      · subst k3
        obtain ⟨vi, hvi⟩ : ∃ vi : Nat, via = vi := ⟨via.toNat, by omega⟩
        subst hvi
        have hviK : vi < M.K := by omega
        obtain ⟨X, hX⟩ : ∃ X, fw * M.K = X := ⟨_, rfl⟩
        have hXl : X + M.K ≤ M.N := by
          rw [← hX, ← Nat.succ_mul]
          exact Nat.mul_le_mul_right _ hf2
        have hby : t.by1 M.N M.P M.K (fr, fw) ⟨3, hn, who, a, b, vi⟩ = t.tick.all M.N M.P (X + vi) hn := by
          unfold St.by1
          rw [if_neg (show ¬ (3 : Int) = 2 by decide), if_pos (show (3 : Int) = 3 from rfl), ← hX]; rfl
        rw [hby] at hfew
        have hw1 : IntKind.i64.wrap ((fw : Int) * (M.K : Int)) = (X : Int) := by
          have : (fw : Int) * (M.K : Int) = (X : Int) := by rw [← hX]; simp
          rw [this]; exact IntWalk.i64_in _ (by omega)
        obtain ⟨Y, hY⟩ : ∃ Y, X + vi = Y := ⟨_, rfl⟩
        have hw2 : IntKind.i64.wrap ((X : Int) + (vi : Int)) = (Y : Int) := by
          have : (X : Int) + (vi : Int) = (Y : Int) := by rw [← hY]; simp
          rw [this]; exact IntWalk.i64_in _ (by omega)
        rw [hY] at hfew hby
        have hYN : Y < M.N := by omega
        clear hcase ha hX hY
        have hbx : LookAt W M vr L vq W.heap.size (fr, fw) wr.heap.size ⟨3, hn, who, a, b, vi⟩ t vq' (wr.alloc (.cells #[.int .i64 3, .int .i64 hn, .int .i64 who, .int .i64 a, .int .i64 b, .int .i64 vi] 29)) := hat.out.box _
        obtain ⟨n0, n1, n2, n3⟩ := hbx.fact.at_.mcells
        obtain ⟨o0, o1, o2, o3⟩ := hbx.fact.at_.ocells
        have fo := hbx.fact.at_.free.2 3
        have htk := hbx.tick
        rw [show ((t.steps + 1 : Nat) : Int) = (t.steps : Int) + 1 from by omega] at htk
        clear hat hbx
        go_upto_region 5 with fail
        generalize (wr.alloc (.cells #[.int .i64 3, .int .i64 hn, .int .i64 who, .int .i64 a, .int .i64 b, .int .i64 vi] 29)).setCell ⟨M.mo, 3, none⟩ (.int .i64 ((t.steps : Int) + 1)) = W2 at htk ⊢
        have HTK := Lib.hid htk
        obtain ⟨⟨q0, q1, q2⟩, ⟨q3, q4⟩, q5, q6, q7, q8, q9, q10⟩ := LookAt.rd HTK
        simp only [] at q3 q4 q5 q6 q7 q8 q9 q10
        clear htk n0 n1 n2 n3 o0 o1 o2 o3 fo c0 c1 c2 c3 c4 c5
        have HD : Hid (LookAt W M vr L vq W.heap.size (fr, fw) wr.heap.size ⟨3, hn, who, a, b, vi⟩ t.tick vq' W2.drew) := HTK.out.quiet ((Keeps.refl _ _).drew)
        have HA : Hid (∀ W', Hid (LookAt W M vr L vq W.heap.size (fr, fw) wr.heap.size ⟨3, hn, who, a, b, vi⟩ t.tick vq' W') → Calls Tryd.prog 55 #[.pointer (some ⟨M.mb, 0, none⟩), .int .i64 Y, .int .i64 hn] W' fun e W'' => e = .returned (.tuple #[]) ∧ ∃ vq3, Hid (LookAt W M vr L vq W.heap.size (fr, fw) wr.heap.size ⟨3, hn, who, a, b, vi⟩ (t.tick.all M.N M.P Y hn) vq3 W'')) := fun W' h => LookAt.all h Y hn hYN (by omega) hfew
        go_upto_region 9 with fail
        go_region_held3 (fun w' => (w'.cell? ⟨M.mb, 0, none⟩ = some (.pointer (some ⟨M.mo, 0, none⟩)) ∧ w'.cell? ⟨M.mo, 0, none⟩ = some (.pointer (some ⟨M.fb, 0, none⟩)) ∧ w'.cell? ⟨M.mo, 2, none⟩ = some (.int .i64 M.K)) ∧ (w'.cell? ⟨W.heap.size, 0, none⟩ = some (.int .i64 fr) ∧ w'.cell? ⟨W.heap.size, 1, none⟩ = some (.int .i64 fw)) ∧ w'.cell? ⟨wr.heap.size, 0, none⟩ = some (.int .i64 3) ∧ w'.cell? ⟨wr.heap.size, 1, none⟩ = some (.int .i64 hn) ∧ w'.cell? ⟨wr.heap.size, 2, none⟩ = some (.int .i64 who) ∧ w'.cell? ⟨wr.heap.size, 3, none⟩ = some (.int .i64 a) ∧ w'.cell? ⟨wr.heap.size, 4, none⟩ = some (.int .i64 b) ∧ w'.cell? ⟨wr.heap.size, 5, none⟩ = some (.int .i64 vi)) (exact LookAt.rd (by assumption)) (first | (go_at_call 55; refine (HA.out _ (by assumption)).mono ?_; rintro e W3 ⟨rfl, vq3, h3⟩))
        clear HA HD
        have HN : Hid (LookF W M vr L vq W.heap.size (fr, fw) (St.byL M.N M.P M.K (fr, fw) ((L fr).take (j + 1)) s) vq3 W3) := by
          rw [E1.out, hby]
          exact h3.out.fact
        clear h3 HTK E1
        go_wp2_with fail
        go_roundg ((L fr).length - (j + 1))
        case measure => omega
        case rel => exact ⟨j + 1, by omega, rfl, by go_num, vq3, HN⟩
      · subst k4
        have ha0 : 0 ≤ a := by omega
        have haN : a < M.N := by omega
        have hb0 : 0 ≤ b := by omega
        have hbN : b < M.N := by omega
        clear hcase ha
        rcases Bool.eq_false_or_eq_true (t.In a.toNat fw) with hav | hav
        · rcases Bool.eq_false_or_eq_true (t.In b.toNat fw) with hbv | hbv
          · have hby : t.by1 M.N M.P M.K (fr, fw) ⟨4, hn, who, a, b, via⟩ = t.tick.add M.N M.P hn fw := by
              unfold St.by1
              rw [if_neg (show ¬ (4 : Int) = 2 by decide), if_neg (show ¬ (4 : Int) = 3 by decide), if_pos (show (4 : Int) = 4 from rfl)]
              show (if t.In a.toNat fw && t.In b.toNat fw then t.tick.add M.N M.P hn fw else t.tick) = _
              rw [hav, hbv]; rfl
            rw [hby] at hfew
            have hbx : LookAt W M vr L vq W.heap.size (fr, fw) wr.heap.size ⟨4, hn, who, a, b, via⟩ t vq' (wr.alloc (.cells #[.int .i64 4, .int .i64 hn, .int .i64 who, .int .i64 a, .int .i64 b, .int .i64 via] 29)) := hat.out.box _
            obtain ⟨n0, n1, n2, n3⟩ := hbx.fact.at_.mcells
            obtain ⟨o0, o1, o2, o3⟩ := hbx.fact.at_.ocells
            have fo := hbx.fact.at_.free.2 3
            have htk := hbx.tick
            rw [show ((t.steps + 1 : Nat) : Int) = (t.steps : Int) + 1 from by omega] at htk
            clear hat hbx
            go_upto_region 5 with fail
            generalize (wr.alloc (.cells #[.int .i64 4, .int .i64 hn, .int .i64 who, .int .i64 a, .int .i64 b, .int .i64 via] 29)).setCell ⟨M.mo, 3, none⟩ (.int .i64 ((t.steps : Int) + 1)) = W2 at htk ⊢
            have HTK := Lib.hid htk
            obtain ⟨⟨q0, q1, q2⟩, ⟨q3, q4⟩, q5, q6, q7, q8, q9, q10⟩ := LookAt.rd HTK
            simp only [] at q3 q4 q5 q6 q7 q8 q9 q10
            clear htk n0 n1 n2 n3 o0 o1 o2 o3 fo c0 c1 c2 c3 c4 c5
            have HD : Hid (LookAt W M vr L vq W.heap.size (fr, fw) wr.heap.size ⟨4, hn, who, a, b, via⟩ t.tick vq' W2.drew) := HTK.out.quiet ((Keeps.refl _ _).drew)
            have HA : Hid (∀ W' (x : Int), Hid (LookAt W M vr L vq W.heap.size (fr, fw) wr.heap.size ⟨4, hn, who, a, b, via⟩ t.tick vq' W') → x = a → Calls Tryd.prog 32 #[.pointer (some ⟨M.fb, 0, none⟩), .int .i64 x, .int .i64 fw] W' fun e W'' => e = .returned (.bool true) ∧ Hid (LookAt W M vr L vq W.heap.size (fr, fw) wr.heap.size ⟨4, hn, who, a, b, via⟩ t.tick vq' W'')) := fun W' x h hx => by
              subst hx
              have := LookAt.has h x fw ha0 haN hf2
              rw [show t.tick.In = t.In from rfl, hav] at this
              exact this
            have HBB : Hid (∀ W' (x : Int), Hid (LookAt W M vr L vq W.heap.size (fr, fw) wr.heap.size ⟨4, hn, who, a, b, via⟩ t.tick vq' W') → x = b → Calls Tryd.prog 32 #[.pointer (some ⟨M.fb, 0, none⟩), .int .i64 x, .int .i64 fw] W' fun e W'' => e = .returned (.bool true) ∧ Hid (LookAt W M vr L vq W.heap.size (fr, fw) wr.heap.size ⟨4, hn, who, a, b, via⟩ t.tick vq' W'')) := fun W' x h hx => by
              subst hx
              have := LookAt.has h x fw hb0 hbN hf2
              rw [show t.tick.In = t.In from rfl, hbv] at this
              exact this
            go_upto_region 11 with fail
            go_cut [87] (fun tt wx => tt = .bool true ∧ Hid (LookAt W M vr L vq W.heap.size (fr, fw) wr.heap.size ⟨4, hn, who, a, b, via⟩ t.tick vq' wx))
            case first =>
              go_region_held3 (fun w' => (w'.cell? ⟨M.mb, 0, none⟩ = some (.pointer (some ⟨M.mo, 0, none⟩)) ∧ w'.cell? ⟨M.mo, 0, none⟩ = some (.pointer (some ⟨M.fb, 0, none⟩)) ∧ w'.cell? ⟨M.mo, 2, none⟩ = some (.int .i64 M.K)) ∧ (w'.cell? ⟨W.heap.size, 0, none⟩ = some (.int .i64 fr) ∧ w'.cell? ⟨W.heap.size, 1, none⟩ = some (.int .i64 fw)) ∧ w'.cell? ⟨wr.heap.size, 0, none⟩ = some (.int .i64 4) ∧ w'.cell? ⟨wr.heap.size, 1, none⟩ = some (.int .i64 hn) ∧ w'.cell? ⟨wr.heap.size, 2, none⟩ = some (.int .i64 who) ∧ w'.cell? ⟨wr.heap.size, 3, none⟩ = some (.int .i64 a) ∧ w'.cell? ⟨wr.heap.size, 4, none⟩ = some (.int .i64 b) ∧ w'.cell? ⟨wr.heap.size, 5, none⟩ = some (.int .i64 via)) (exact LookAt.rd (by assumption)) (first | (go_at_call 32; refine (HA.out _ _ (by assumption) (by exact rfl)).mono ?_; rintro e W3 ⟨rfl, h3⟩) | (go_at_call 32; refine (HBB.out _ _ (by assumption) (by exact rfl)).mono ?_; rintro e W3 ⟨rfl, h3⟩))
              all_goals (go_wp2_with fail; go_meet; refine ⟨rfl, ?_⟩; assumption)
            case rest =>
              obtain ⟨rfl, HC⟩ := hcut
              clear HA HD HTK HBB q0 q1 q2 q3 q4 q5 q6 q7 q8 q9 q10
              obtain ⟨⟨q0, q1, q2⟩, ⟨q3, q4⟩, q5, q6, q7, q8, q9, q10⟩ := LookAt.rd HC
              simp only [] at q3 q4 q5 q6 q7 q8 q9 q10
              have HAD := Lib.hid (LookAt.add HC hn fw (by omega) (by omega) hfew)
              go_wp2_with fail
              refine HAD.out.mono ?_
              rintro e W3 ⟨rfl, vq3, h3⟩
              clear HAD
              have HN : Hid (LookF W M vr L vq W.heap.size (fr, fw) (St.byL M.N M.P M.K (fr, fw) ((L fr).take (j + 1)) s) vq3 W3) := by
                rw [E1.out, hby]
                exact h3.out.fact
              clear h3 E1 HC
              go_wp2_with fail
              go_roundg ((L fr).length - (j + 1))
              case measure => omega
              case rel => exact ⟨j + 1, by omega, rfl, by go_num, vq3, HN⟩
          · have hby : t.by1 M.N M.P M.K (fr, fw) ⟨4, hn, who, a, b, via⟩ = t.tick := by
              unfold St.by1
              rw [if_neg (show ¬ (4 : Int) = 2 by decide), if_neg (show ¬ (4 : Int) = 3 by decide), if_pos (show (4 : Int) = 4 from rfl)]
              show (if t.In a.toNat fw && t.In b.toNat fw then t.tick.add M.N M.P hn fw else t.tick) = _
              rw [hav, hbv]; rfl
            rw [hby] at hfew
            have hbx : LookAt W M vr L vq W.heap.size (fr, fw) wr.heap.size ⟨4, hn, who, a, b, via⟩ t vq' (wr.alloc (.cells #[.int .i64 4, .int .i64 hn, .int .i64 who, .int .i64 a, .int .i64 b, .int .i64 via] 29)) := hat.out.box _
            obtain ⟨n0, n1, n2, n3⟩ := hbx.fact.at_.mcells
            obtain ⟨o0, o1, o2, o3⟩ := hbx.fact.at_.ocells
            have fo := hbx.fact.at_.free.2 3
            have htk := hbx.tick
            rw [show ((t.steps + 1 : Nat) : Int) = (t.steps : Int) + 1 from by omega] at htk
            clear hat hbx
            go_upto_region 5 with fail
            generalize (wr.alloc (.cells #[.int .i64 4, .int .i64 hn, .int .i64 who, .int .i64 a, .int .i64 b, .int .i64 via] 29)).setCell ⟨M.mo, 3, none⟩ (.int .i64 ((t.steps : Int) + 1)) = W2 at htk ⊢
            have HTK := Lib.hid htk
            obtain ⟨⟨q0, q1, q2⟩, ⟨q3, q4⟩, q5, q6, q7, q8, q9, q10⟩ := LookAt.rd HTK
            simp only [] at q3 q4 q5 q6 q7 q8 q9 q10
            clear htk n0 n1 n2 n3 o0 o1 o2 o3 fo c0 c1 c2 c3 c4 c5
            have HD : Hid (LookAt W M vr L vq W.heap.size (fr, fw) wr.heap.size ⟨4, hn, who, a, b, via⟩ t.tick vq' W2.drew) := HTK.out.quiet ((Keeps.refl _ _).drew)
            have HA : Hid (∀ W' (x : Int), Hid (LookAt W M vr L vq W.heap.size (fr, fw) wr.heap.size ⟨4, hn, who, a, b, via⟩ t.tick vq' W') → x = a → Calls Tryd.prog 32 #[.pointer (some ⟨M.fb, 0, none⟩), .int .i64 x, .int .i64 fw] W' fun e W'' => e = .returned (.bool true) ∧ Hid (LookAt W M vr L vq W.heap.size (fr, fw) wr.heap.size ⟨4, hn, who, a, b, via⟩ t.tick vq' W'')) := fun W' x h hx => by
              subst hx
              have := LookAt.has h x fw ha0 haN hf2
              rw [show t.tick.In = t.In from rfl, hav] at this
              exact this
            have HBB : Hid (∀ W' (x : Int), Hid (LookAt W M vr L vq W.heap.size (fr, fw) wr.heap.size ⟨4, hn, who, a, b, via⟩ t.tick vq' W') → x = b → Calls Tryd.prog 32 #[.pointer (some ⟨M.fb, 0, none⟩), .int .i64 x, .int .i64 fw] W' fun e W'' => e = .returned (.bool false) ∧ Hid (LookAt W M vr L vq W.heap.size (fr, fw) wr.heap.size ⟨4, hn, who, a, b, via⟩ t.tick vq' W'')) := fun W' x h hx => by
              subst hx
              have := LookAt.has h x fw hb0 hbN hf2
              rw [show t.tick.In = t.In from rfl, hbv] at this
              exact this
            go_upto_region 11 with fail
            go_cut [87] (fun tt wx => tt = .bool false ∧ Hid (LookAt W M vr L vq W.heap.size (fr, fw) wr.heap.size ⟨4, hn, who, a, b, via⟩ t.tick vq' wx))
            case first =>
              go_region_held3 (fun w' => (w'.cell? ⟨M.mb, 0, none⟩ = some (.pointer (some ⟨M.mo, 0, none⟩)) ∧ w'.cell? ⟨M.mo, 0, none⟩ = some (.pointer (some ⟨M.fb, 0, none⟩)) ∧ w'.cell? ⟨M.mo, 2, none⟩ = some (.int .i64 M.K)) ∧ (w'.cell? ⟨W.heap.size, 0, none⟩ = some (.int .i64 fr) ∧ w'.cell? ⟨W.heap.size, 1, none⟩ = some (.int .i64 fw)) ∧ w'.cell? ⟨wr.heap.size, 0, none⟩ = some (.int .i64 4) ∧ w'.cell? ⟨wr.heap.size, 1, none⟩ = some (.int .i64 hn) ∧ w'.cell? ⟨wr.heap.size, 2, none⟩ = some (.int .i64 who) ∧ w'.cell? ⟨wr.heap.size, 3, none⟩ = some (.int .i64 a) ∧ w'.cell? ⟨wr.heap.size, 4, none⟩ = some (.int .i64 b) ∧ w'.cell? ⟨wr.heap.size, 5, none⟩ = some (.int .i64 via)) (exact LookAt.rd (by assumption)) (first | (go_at_call 32; refine (HA.out _ _ (by assumption) (by exact rfl)).mono ?_; rintro e W3 ⟨rfl, h3⟩) | (go_at_call 32; refine (HBB.out _ _ (by assumption) (by exact rfl)).mono ?_; rintro e W3 ⟨rfl, h3⟩))
              all_goals (go_wp2_with fail; go_meet; refine ⟨rfl, ?_⟩; assumption)
            case rest =>
              obtain ⟨rfl, HC⟩ := hcut
              clear HA HD HTK HBB q0 q1 q2 q3 q4 q5 q6 q7 q8 q9 q10
              have HN : Hid (LookF W M vr L vq W.heap.size (fr, fw) (St.byL M.N M.P M.K (fr, fw) ((L fr).take (j + 1)) s) vq' wc) := by
                rw [E1.out, hby]
                exact HC.out.fact
              clear HC E1
              go_wp2_with fail
              go_roundg ((L fr).length - (j + 1))
              case measure => omega
              case rel => exact ⟨j + 1, by omega, rfl, by go_num, vq', HN⟩
        · have hby : t.by1 M.N M.P M.K (fr, fw) ⟨4, hn, who, a, b, via⟩ = t.tick := by
            unfold St.by1
            rw [if_neg (show ¬ (4 : Int) = 2 by decide), if_neg (show ¬ (4 : Int) = 3 by decide), if_pos (show (4 : Int) = 4 from rfl)]
            show (if t.In a.toNat fw && t.In b.toNat fw then t.tick.add M.N M.P hn fw else t.tick) = _
            rw [hav]; rfl
          rw [hby] at hfew
          have hbx : LookAt W M vr L vq W.heap.size (fr, fw) wr.heap.size ⟨4, hn, who, a, b, via⟩ t vq' (wr.alloc (.cells #[.int .i64 4, .int .i64 hn, .int .i64 who, .int .i64 a, .int .i64 b, .int .i64 via] 29)) := hat.out.box _
          obtain ⟨n0, n1, n2, n3⟩ := hbx.fact.at_.mcells
          obtain ⟨o0, o1, o2, o3⟩ := hbx.fact.at_.ocells
          have fo := hbx.fact.at_.free.2 3
          have htk := hbx.tick
          rw [show ((t.steps + 1 : Nat) : Int) = (t.steps : Int) + 1 from by omega] at htk
          clear hat hbx
          go_upto_region 5 with fail
          generalize (wr.alloc (.cells #[.int .i64 4, .int .i64 hn, .int .i64 who, .int .i64 a, .int .i64 b, .int .i64 via] 29)).setCell ⟨M.mo, 3, none⟩ (.int .i64 ((t.steps : Int) + 1)) = W2 at htk ⊢
          have HTK := Lib.hid htk
          obtain ⟨⟨q0, q1, q2⟩, ⟨q3, q4⟩, q5, q6, q7, q8, q9, q10⟩ := LookAt.rd HTK
          simp only [] at q3 q4 q5 q6 q7 q8 q9 q10
          clear htk n0 n1 n2 n3 o0 o1 o2 o3 fo c0 c1 c2 c3 c4 c5
          have HQ : Hid (∀ n, Calls Tryd.prog 32 #[.pointer (some ⟨M.fb, 0, none⟩), .int .i64 a, .int .i64 fw] (W2.drewN n) fun e w' => e = .returned (.bool false) ∧ w' = W2.drewN n) := fun n => by
            have hk := HTK.out.fact.at_.keeps (Keeps.drewN (Keeps.refl (fun _ => False) W2) n)
            have hcal := fhas_spec hk.fam a fw (by omega) (by omega)
            have hv : hasB M.N M.P t.tick.In a fw = false := by
              unfold hasB rowP
              rw [if_pos ⟨ha0, haN⟩, Int.toNat_natCast, show t.tick.In = t.In from rfl, hav, Bool.and_false]
            rw [hv] at hcal
            exact hcal.mono fun e w' x => ⟨x.1, x.2.symm⟩
          go_upto_region 11 with fail
          go_cut [87] (fun tt wx => tt = .bool false ∧ Hid (LookAt W M vr L vq W.heap.size (fr, fw) wr.heap.size ⟨4, hn, who, a, b, via⟩ t.tick vq' wx))
          case first =>
            go_quiet (first | (go_at_call 32; refine Calls.quiet_of_same (HQ.out _)))
            go_wp2_with fail
            go_meet
            exact ⟨rfl, HTK.out.quiet (Keeps.drewN (Keeps.refl _ _) _)⟩
          case rest =>
            obtain ⟨rfl, HC⟩ := hcut
            clear HQ HTK q0 q1 q2 q3 q4 q5 q6 q7 q8 q9 q10
            have HN : Hid (LookF W M vr L vq W.heap.size (fr, fw) (St.byL M.N M.P M.K (fr, fw) ((L fr).take (j + 1)) s) vq' wc) := by
              rw [E1.out, hby]
              exact HC.out.fact
            clear HC E1
            go_wp2_with fail
            go_roundg ((L fr).length - (j + 1))
            case measure => omega
            case rel => exact ⟨j + 1, by omega, rfl, by go_num, vq', HN⟩
    · obtain rfl : j = (L fr).length := by omega
      rw [List.take_length] at hat
      obtain ⟨v, hv0⟩ : ∃ v, fr % M.K = v := ⟨_, rfl⟩
      obtain ⟨d, hd⟩ : ∃ d, fr / M.K = d := ⟨_, rfl⟩
      have hdP : d < M.P := by
        rw [← hd]; exact (Nat.div_lt_iff_lt_mul hK).2 hf1
      rw [hv0] at hvm hv2 hle2
      have HV' := HV.out
      rw [hv0] at HV'
      have HF' := HF.out
      unfold St.look at HF'
      simp only [] at HF'
      have HEND : s.look M.N M.P M.K L (fr, fw) = St.viaL M.N M.P M.K (fr, fw) (L (M.N + v)) (St.byL M.N M.P M.K (fr, fw) (L fr) s) := by unfold St.look; simp only []; rw [hv0]
      rw [hv0] at HF'
      have hlen2 : (L (M.N + v)).length ≤ cap2 := hle2
      have htm : Int.tmod (fr : Int) (M.K : Int) = (v : Int) := by
        rw [Int.tmod_eq_emod_of_nonneg (by omega), ← hv0]; simp
      have htq : Int.tdiv (fr : Int) (M.K : Int) = (d : Int) := by
        rw [Int.tdiv_eq_ediv_of_nonneg (by omega), ← hd]; simp
      have hqw : IntKind.i64.wrap (d : Int) = (d : Int) := IntWalk.i64_in _ (by omega)
      have hK0 : (M.K : Int) ≠ 0 := by omega
      have hqq : IntKind.i64.wrap (Int.tdiv (fr : Int) (M.K : Int)) = (d : Int) := by rw [htq]; exact hqw
      have hK1 : ((M.K : Int) == 0) = false := by simpa using hK0
      have hK2 : ¬ M.K = 0 := by omega
      have hvI0 : (0 : Int) ≤ (v : Int) := by omega
      have hvI : (v : Int) < (M.K : Int) := by omega
      have bc2 := hat.out.at_.viaCell hvm
      rw [hv2] at bc2
      obtain ⟨n0, n1, n2, n3⟩ := hat.out.at_.mcells
      obtain ⟨o0, o1, o2, o3⟩ := hat.out.at_.ocells
      have hf0 : wr.cell? ⟨W.heap.size, 0, none⟩ = some (.int .i64 fr) := hat.out.f0
      have HL2 : Hid (∀ n, LookF W M vr L vq W.heap.size (fr, fw) (St.byL M.N M.P M.K (fr, fw) (L fr) s) vq' (wr.drewN n)) := fun n => hat.out.quiet (Keeps.drewN (Keeps.refl _ _) n)
      have HVV := Lib.hid HV'
      have HFF := Lib.hid HF'
      clear hat HV' HF' HB HV HF
      go_upto_region 14 with fail
      go_quiet (fail)
      clear n0 n1 n2 n3 o0 o1 o2 o3 hf0 bc2
      go_wp2_with fail
      go_loopg [112] (L (M.N + v)).length (fun g t wz => ∃ j2 : Nat, j2 ≤ (L (M.N + v)).length ∧ g = (L (M.N + v)).length - j2 ∧ t = .int .i64 j2 ∧ ∃ vq2, Hid (LookF W M vr L vq W.heap.size (fr, fw) (St.viaL M.N M.P M.K (fr, fw) ((L (M.N + v)).take j2) (St.byL M.N M.P M.K (fr, fw) (L fr) s)) vq2 wz))
      case atStart => exact ⟨0, Nat.zero_le _, rfl, rfl, vq', HL2.out _⟩
      case round =>
        clear HL2
        obtain ⟨j2, hj2, rfl, rfl, vq2, hat⟩ := hrel
        by_cases hlt2 : j2 < (L (M.N + v)).length
        · obtain ⟨r, hr⟩ : ∃ r, (L (M.N + v))[j2]? = some r := ⟨_, List.getElem?_eq_getElem hlt2⟩
          obtain ⟨hR, hKeep⟩ := HVV.out r (List.mem_of_getElem? hr)
          obtain ⟨e1, x1⟩ := St.viaL_take (N := M.N) (P := M.P) (K := M.K) (f := (fr, fw)) (L (M.N + v)) (St.byL M.N M.P M.K (fr, fw) (L fr) s) hr
          have hfew := Few.down x1 HFF.out
          have hlt0 := St.via1_ext (N := M.N) (P := M.P) (K := M.K) (f := (fr, fw)) (St.viaL M.N M.P M.K (fr, fw) ((L (M.N + v)).take j2) (St.byL M.N M.P M.K (fr, fw) (L fr) s)) r
          have hst1 := Nat.le_trans hlt0.steps hfew.steps
          have E1 := Lib.hid e1
          obtain ⟨g, k, rfl, c0, c1, c2, c3, c4, c5⟩ := hat.out.at_.rule (i := M.N + v) (by omega) hv2 hr
          obtain ⟨⟨hh0, hh1⟩, hcase⟩ := right_iff hR
          have hk := keep_via hKeep
          obtain ⟨t, ht⟩ : ∃ t, St.viaL M.N M.P M.K (fr, fw) ((L (M.N + v)).take j2) (St.byL M.N M.P M.K (fr, fw) (L fr) s) = t := ⟨_, rfl⟩
          rw [ht] at hat hfew hst1 E1
          obtain ⟨hn, hhn⟩ : ∃ hn : Nat, r.head = hn := ⟨r.head.toNat, by omega⟩
          obtain ⟨kind, head, who, a, b, via⟩ := r
          simp only [] at hhn c0 c1 c2 c3 c4 c5 hh0 hh1 hcase hk
          subst hhn
          obtain ⟨k3, hvv⟩ := hk
          subst k3
          have hnN : hn < M.N := by unfold Mk.N; omega
          have hjI : (j2 : Int) < ((L (M.N + v)).length : Int) := by omega
          have hwt : IntKind.i64.wrap ((t.steps : Int) + 1) = (t.steps : Int) + 1 := IntWalk.i64_in _ (by omega)
          have hNe : M.N = M.P * M.K := rfl
          rw [← hNe] at hcase
          have ha0 : 0 ≤ a := by omega
          have haN : a < M.N := by omega
          clear e1 x1 hlt0 ht hR hKeep hr hcase hvv
          have hbx : LookAt W M vr L vq W.heap.size (fr, fw) wr.heap.size ⟨3, hn, who, a, b, via⟩ t vq2 (wr.alloc (.cells #[.int .i64 3, .int .i64 hn, .int .i64 who, .int .i64 a, .int .i64 b, .int .i64 via] 29)) := hat.out.box _
          obtain ⟨n0, n1, n2, n3⟩ := hbx.fact.at_.mcells
          obtain ⟨o0, o1, o2, o3⟩ := hbx.fact.at_.ocells
          have fo := hbx.fact.at_.free.2 3
          have htk := hbx.tick
          rw [show ((t.steps + 1 : Nat) : Int) = (t.steps : Int) + 1 from by omega] at htk
          clear hat hbx
          go_upto_region 18 with fail
          generalize (wr.alloc (.cells #[.int .i64 3, .int .i64 hn, .int .i64 who, .int .i64 a, .int .i64 b, .int .i64 via] 29)).setCell ⟨M.mo, 3, none⟩ (.int .i64 ((t.steps : Int) + 1)) = W2 at htk ⊢
          have HTK := Lib.hid htk
          have HD : Hid (LookAt W M vr L vq W.heap.size (fr, fw) wr.heap.size ⟨3, hn, who, a, b, via⟩ t.tick vq2 W2.drew) := HTK.out.quiet ((Keeps.refl _ _).drew)
          obtain ⟨⟨q0, q1, q2⟩, ⟨q3, q4⟩, q5, q6, q7, q8, q9, q10⟩ := LookAt.rd HTK
          simp only [] at q3 q4 q5 q6 q7 q8 q9 q10
          clear htk n0 n1 n2 n3 o0 o1 o2 o3 fo c0 c1 c2 c3 c4 c5
          rcases Bool.eq_false_or_eq_true (t.In a.toNat d) with hav | hav
          · have hby : t.via1 M.N M.P M.K (fr, fw) ⟨3, hn, who, a, b, via⟩ = t.tick.add M.N M.P hn fw := by
              unfold St.via1
              show (if t.In a.toNat (fr / M.K) then t.tick.add M.N M.P hn fw else t.tick) = _
              rw [hd, hav]; rfl
            rw [hby] at hfew
            have HA : Hid (∀ W', Hid (LookAt W M vr L vq W.heap.size (fr, fw) wr.heap.size ⟨3, hn, who, a, b, via⟩ t.tick vq2 W') → Calls Tryd.prog 32 #[.pointer (some ⟨M.fb, 0, none⟩), .int .i64 a, .int .i64 d] W' fun e W'' => e = .returned (.bool true) ∧ Hid (LookAt W M vr L vq W.heap.size (fr, fw) wr.heap.size ⟨3, hn, who, a, b, via⟩ t.tick vq2 W'')) := fun W' h => by
              have := LookAt.has h a d ha0 haN hdP
              rw [show t.tick.In = t.In from rfl, hav] at this
              exact this
            go_cut [145] (fun tt wx => tt = .bool true ∧ Hid (LookAt W M vr L vq W.heap.size (fr, fw) wr.heap.size ⟨3, hn, who, a, b, via⟩ t.tick vq2 wx))
            case first =>
              go_region_held3 (fun w' => (w'.cell? ⟨M.mb, 0, none⟩ = some (.pointer (some ⟨M.mo, 0, none⟩)) ∧ w'.cell? ⟨M.mo, 0, none⟩ = some (.pointer (some ⟨M.fb, 0, none⟩)) ∧ w'.cell? ⟨M.mo, 2, none⟩ = some (.int .i64 M.K)) ∧ (w'.cell? ⟨W.heap.size, 0, none⟩ = some (.int .i64 fr) ∧ w'.cell? ⟨W.heap.size, 1, none⟩ = some (.int .i64 fw)) ∧ w'.cell? ⟨wr.heap.size, 0, none⟩ = some (.int .i64 3) ∧ w'.cell? ⟨wr.heap.size, 1, none⟩ = some (.int .i64 hn) ∧ w'.cell? ⟨wr.heap.size, 2, none⟩ = some (.int .i64 who) ∧ w'.cell? ⟨wr.heap.size, 3, none⟩ = some (.int .i64 a) ∧ w'.cell? ⟨wr.heap.size, 4, none⟩ = some (.int .i64 b) ∧ w'.cell? ⟨wr.heap.size, 5, none⟩ = some (.int .i64 via)) (exact LookAt.rd (by assumption)) (first | (go_at_call 32; refine (HA.out _ (by assumption)).mono ?_; rintro e W3 ⟨rfl, h3⟩))
              all_goals (go_wp2_with fail; go_meet; refine ⟨rfl, ?_⟩; assumption)
            case rest =>
              obtain ⟨rfl, HC⟩ := hcut
              clear HA HD HTK q0 q1 q2 q3 q4 q5 q6 q7 q8 q9 q10
              obtain ⟨⟨q0, q1, q2⟩, ⟨q3, q4⟩, q5, q6, q7, q8, q9, q10⟩ := LookAt.rd HC
              simp only [] at q3 q4 q5 q6 q7 q8 q9 q10
              have HAD := Lib.hid (LookAt.add HC hn fw (by omega) (by omega) hfew)
              go_wp2_with fail
              refine HAD.out.mono ?_
              rintro e W3 ⟨rfl, vq3, h3⟩
              clear HAD HC
              have HN : Hid (LookF W M vr L vq W.heap.size (fr, fw) (St.viaL M.N M.P M.K (fr, fw) ((L (M.N + v)).take (j2 + 1)) (St.byL M.N M.P M.K (fr, fw) (L fr) s)) vq3 W3) := by
                rw [E1.out, hby]
                exact h3.out.fact
              clear h3 E1
              go_wp2_with fail
              go_roundg ((L (M.N + v)).length - (j2 + 1))
              case measure => omega
              case rel => exact ⟨j2 + 1, by omega, rfl, by go_num, vq3, HN⟩
          · have hby : t.via1 M.N M.P M.K (fr, fw) ⟨3, hn, who, a, b, via⟩ = t.tick := by
              unfold St.via1
              show (if t.In a.toNat (fr / M.K) then t.tick.add M.N M.P hn fw else t.tick) = _
              rw [hd, hav]; rfl
            rw [hby] at hfew
            have HA : Hid (∀ W', Hid (LookAt W M vr L vq W.heap.size (fr, fw) wr.heap.size ⟨3, hn, who, a, b, via⟩ t.tick vq2 W') → Calls Tryd.prog 32 #[.pointer (some ⟨M.fb, 0, none⟩), .int .i64 a, .int .i64 d] W' fun e W'' => e = .returned (.bool false) ∧ Hid (LookAt W M vr L vq W.heap.size (fr, fw) wr.heap.size ⟨3, hn, who, a, b, via⟩ t.tick vq2 W'')) := fun W' h => by
              have := LookAt.has h a d ha0 haN hdP
              rw [show t.tick.In = t.In from rfl, hav] at this
              exact this
            go_cut [145] (fun tt wx => tt = .bool false ∧ Hid (LookAt W M vr L vq W.heap.size (fr, fw) wr.heap.size ⟨3, hn, who, a, b, via⟩ t.tick vq2 wx))
            case first =>
              go_region_held3 (fun w' => (w'.cell? ⟨M.mb, 0, none⟩ = some (.pointer (some ⟨M.mo, 0, none⟩)) ∧ w'.cell? ⟨M.mo, 0, none⟩ = some (.pointer (some ⟨M.fb, 0, none⟩)) ∧ w'.cell? ⟨M.mo, 2, none⟩ = some (.int .i64 M.K)) ∧ (w'.cell? ⟨W.heap.size, 0, none⟩ = some (.int .i64 fr) ∧ w'.cell? ⟨W.heap.size, 1, none⟩ = some (.int .i64 fw)) ∧ w'.cell? ⟨wr.heap.size, 0, none⟩ = some (.int .i64 3) ∧ w'.cell? ⟨wr.heap.size, 1, none⟩ = some (.int .i64 hn) ∧ w'.cell? ⟨wr.heap.size, 2, none⟩ = some (.int .i64 who) ∧ w'.cell? ⟨wr.heap.size, 3, none⟩ = some (.int .i64 a) ∧ w'.cell? ⟨wr.heap.size, 4, none⟩ = some (.int .i64 b) ∧ w'.cell? ⟨wr.heap.size, 5, none⟩ = some (.int .i64 via)) (exact LookAt.rd (by assumption)) (first | (go_at_call 32; refine (HA.out _ (by assumption)).mono ?_; rintro e W3 ⟨rfl, h3⟩))
              all_goals (go_wp2_with fail; go_meet; refine ⟨rfl, ?_⟩; assumption)
            case rest =>
              obtain ⟨rfl, HC⟩ := hcut
              clear HA HD HTK q0 q1 q2 q3 q4 q5 q6 q7 q8 q9 q10
              have HN : Hid (LookF W M vr L vq W.heap.size (fr, fw) (St.viaL M.N M.P M.K (fr, fw) ((L (M.N + v)).take (j2 + 1)) (St.byL M.N M.P M.K (fr, fw) (L fr) s)) vq2 wc) := by
                rw [E1.out, hby]
                exact HC.out.fact
              clear HC E1
              go_wp2_with fail
              go_roundg ((L (M.N + v)).length - (j2 + 1))
              case measure => omega
              case rel => exact ⟨j2 + 1, by omega, rfl, by go_num, vq2, HN⟩
        · obtain rfl : j2 = (L (M.N + v)).length := by omega
          have hat2 := hat.out.at_
          rw [List.take_length] at hat2
          have hpost : AddPostS M vr L vq (s.look M.N M.P M.K L (fr, fw)) W (.returned (.tuple #[])) wr := ⟨rfl, vq2, by rw [HEND]; exact hat2, hat.out.step⟩
          have HP := Lib.hid hpost
          clear hpost hat hat2
          go_wp2
          go_end0
          exact HP.out
end
end Go.Proofs.YtaabmkebbnkonaaDoor
/-
  May a rule be? (the program's table.Right)
-/
set_option linter.unusedVariables false
set_option linter.unusedSimpArgs false
set_option linter.unnecessarySimpa false
namespace Go.Proofs.YtaabmkebbnkonaaDoor
open Go.ChangeShapes Go.WideShapes Go.ChangeAt Go.RowKit Go.Deep SetPlain
set_option maxRecDepth 10000 in
set_option maxHeartbeats 800000 in
theorem rule_eql (k h w1 a1 b1 v1 w2 a2 b2 v2 : Int) (w : World) :
    (binOp .eql 29 (.agg #[.int .i64 k, .int .i64 h, .int .i64 w1, .int .i64 a1, .int .i64 b1, .int .i64 v1]) (.agg #[.int .i64 k, .int .i64 h, .int .i64 w2, .int .i64 a2, .int .i64 b2, .int .i64 v2])).run Tryd.prog w = .ok (.bool (decide (w1 = w2 ∧ a1 = a2 ∧ b1 = b2 ∧ v1 = v2))) w := by
  by_cases h0 : w1 = w2
  · subst h0
    by_cases h1 : a1 = a2
    · subst h1
      by_cases h2 : b1 = b2
      · subst h2
        by_cases h3 : v1 = v2
        · subst h3
          simp [go_sem]
        · have h3' : (v1 == v2) = false := by simpa using h3
          simp [go_sem, h3', h3]
      · have h3' : (b1 == b2) = false := by simpa using h2
        simp [go_sem, h3', h2]
    · have h3' : (a1 == a2) = false := by simpa using h1
      simp [go_sem, h3', h1]
  · have h3' : (w1 == w2) = false := by simpa using h0
    simp [go_sem, h3', h0]
set_option maxRecDepth 10000 in
set_option maxHeartbeats 800000 in
theorem role_spec {W : World} {x3 x4 : Nat} {p k : Int} (h3 : W.cell? ⟨x3, 0, none⟩ = some (.int .i64 p)) (h4 : W.cell? ⟨x4, 0, none⟩ = some (.int .i64 k)) (hp0 : 0 ≤ p) (hp1 : p ≤ 1000) (hk0 : 0 ≤ k) (hk1 : k ≤ 1000) (i : Int) :
    Calls Tryd.prog 38 #[.int .i64 i, .pointer (some ⟨x3, 0, none⟩), .pointer (some ⟨x4, 0, none⟩)] W fun e W' => e = .returned (.bool (roleB p k i)) ∧ W = W' := by
  have hpk0 : 0 ≤ p * k := Int.mul_nonneg hp0 hk0
  have hpk1 : p * k ≤ 1000 * 1000 := Int.mul_le_mul hp1 hk1 hk0 (by omega)
  obtain ⟨m, hm⟩ : ∃ m, p * k = m := ⟨_, rfl⟩
  rw [hm] at hpk0 hpk1
  have hw : IntKind.i64.wrap (p * k) = m := by rw [hm]; exact IntWalk.i64_in _ (by omega)
  unfold roleB
  rw [hm]
  clear hm
  rcases Int.lt_or_le i 0 with h0 | h0
  · have hr : decide (0 ≤ i ∧ i < m) = false := by rw [decide_eq_false_iff_not]; omega
    rw [hr]
    go_enter Tryd.func38, Tryd.ntmps38
    go_wp2
    go_ret
    exact ⟨rfl, rfl⟩
  · rcases Int.lt_or_le i m with h1 | h1
    · have hr : decide (0 ≤ i ∧ i < m) = true := by rw [decide_eq_true_iff]; omega
      rw [hr]
      go_enter Tryd.func38, Tryd.ntmps38
      go_wp2
      go_ret
      exact ⟨by simp [h1], rfl⟩
    · have hr : decide (0 ≤ i ∧ i < m) = false := by rw [decide_eq_false_iff_not]; omega
      rw [hr]
      go_enter Tryd.func38, Tryd.ntmps38
      go_wp2
      go_ret
      exact ⟨by simp; omega, rfl⟩
end Go.Proofs.YtaabmkebbnkonaaDoor
