/-
  Make.
-/
import Derived.Test.YtloidoekmicloaaMB
import Derived.Deep.RegionLaw
set_option linter.unusedVariables false
set_option linter.unusedSimpArgs false
namespace Go.Proofs.Ytloidoekmicloaa
open Go.ChangeShapes Go.WideShapes Go.ChangeAt Go.RowKit Go.Deep NodePlain

/-- The table at b, whole: its memory, and what holds of it. -/
structure TabAll (w : World) (b bp M : Nat) (vn : Value) (V B : Int) (L : Nat → Nd) (n : Nat) (P : Nat → Nat) (s : Bool) : Prop where
  mem : TabMem w b bp M vn V B L n P s
  good : NodePlain.Good V L n
  placed : Placed (startAt M) L n M P
  half : 2 * n ≤ M
  few : M ≤ 4 * n + 16
  most : 16 ≤ M

def MakePost (b bp : Nat) (vn : Value) (V B : Int) (L : Nat → Nd) (n : Nat) (s : Bool) (x : Nd) (r : Res) (w : World) (e : Ending) (w' : World) : Prop :=
  e = .returned (.tuple #[.int .i64 (r.num n x.2.1), .int .i64 r.err]) ∧
    ∃ (bp' M' : Nat) (vn' : Value) (P' : Nat → Nat), TabAll w' b bp' M' vn' V B (r.nodes L n x) (r.len n) P' (r.out s) ∧ Keeps (tabFp b bp vn) w w' ∧ (∀ k, tabFp b bp' vn' k → tabFp b bp vn k ∨ w.heap.size ≤ k)

theorem ndInfo : (Try.prog.info? 103).map (fun i => (i.zero, i.size, i.bytes)) = some (some (.agg #[.int .i64 0, .int .i64 0, .int .i64 0]), 3, 24) := by kernel_rfl

theorem TabMem.spend {w : World} {b bp M : Nat} {vn : Value} {V B : Int} {L : Nat → Nd} {n : Nat} {P : Nat → Nat} {s : Bool} (h : TabMem w b bp M vn V B L n P s) : TabMem (w.setCell ⟨b, 4, none⟩ (.bool true)) b bp M vn V B L n P true := by
  have hne := h.ne
  have kk := Keeps.setCell (S := fun k => k = b) (Keeps.refl _ w) (p := ⟨b, 4, none⟩) (fun _ => rfl) (.bool true)
  exact ⟨heap_set h.obj 4 _, (kk.block bp (lt_of_heap h.places) (fun e => hne.1 e.symm)).trans h.places, ownsRow_keeps' h.nodes kk (fun k hk e => by subst e; exact hne.2.1 hk)⟩

section
variable {w : World} {b bp M : Nat} {vn : Value} {V B : Int} {L : Nat → Nd} {n : Nat} {P : Nat → Nat} {s : Bool}

theorem TabAll.keeps (h : TabAll w b bp M vn V B L n P s) {S : Nat → Prop} {w' : World} (hk : Keeps S w w') (hs : ∀ k, tabFp b bp vn k → ¬ S k) : TabAll w' b bp M vn V B L n P s :=
  ⟨h.mem.keeps hk hs, h.good, h.placed, h.half, h.few, h.most⟩

set_option maxRecDepth 100000 in
set_option maxHeartbeats 6400000 in
theorem tmake_spec (h : TabAll w b bp M vn V B L n P s) (hn : n ≤ 1000000000) (v lo hi : Int) (hv0 : -9223372036854775808 ≤ v) (hv1 : v ≤ 9223372036854775807) (hl0 : -9223372036854775808 ≤ lo) (hl1 : lo ≤ 9223372036854775807) (hh0 : -9223372036854775808 ≤ hi) (hh1 : hi ≤ 9223372036854775807) :
    Calls Try.prog 66 #[.pointer (some ⟨b, 0, none⟩), .int .i64 v, .int .i64 lo, .int .i64 hi] w (MakePost b bp vn V B L n s (v, lo, hi) (resN V B L n v lo hi) w) := by
  have HI : ∀ k : Int, k ≤ 9223372036854775807 → ∀ W, Keeps (fun _ => False) w W → Calls Try.prog 52 #[.pointer (some ⟨b, 0, none⟩), .int .i64 k] W fun e w' => e = .returned (.bool (isN n k)) ∧ W = w' := fun k hk W hW => tis_spec (h.mem.keeps hW (fun _ _ x => x)) (by omega) k hk
  have HV : ∀ k : Int, -9223372036854775808 ≤ k → k ≤ 9223372036854775807 → ∀ W, Keeps (fun _ => False) w W → Calls Try.prog 68 #[.pointer (some ⟨b, 0, none⟩), .int .i64 k] W fun e w' => e = .returned (.int .i64 (varN V L n k)) ∧ Below W.heap.size W w' := fun k hk hk' W hW => tvar_spec (h.mem.keeps hW (fun _ _ x => x)) (by omega) k hk hk'
  have HI1 := Lib.hid (HI lo hl1); have HI2 := Lib.hid (HI hi hh1); have HV1 := Lib.hid (HV lo hl0 hl1); have HV2 := Lib.hid (HV hi hh0 hh1)
  clear HI HV
  have c0 : ∀ W, Keeps (fun _ => False) w W → W.cell? ⟨b, 0, none⟩ = some (.int .i64 V) := fun W hW => by rw [cell_of_heap (h.mem.keeps hW (fun _ _ x => x)).obj]; rfl
  have e0 := c0 w (Keeps.refl _ _)
  obtain ⟨ao, cap, rfl, hle, hmx, hrow0⟩ := h.mem.row
  unfold maxLen at hmx
  clear hrow0
  clear c0
  have hf : fitN V L n v lo hi = decide (0 ≤ v ∧ v < V ∧ isN n lo = true ∧ isN n hi = true ∧ v < varN V L n lo ∧ v < varN V L n hi) := rfl
  obtain ⟨vl, hvl⟩ : ∃ x, varN V L n lo = x := ⟨_, rfl⟩
  obtain ⟨vh, hvh⟩ : ∃ x, varN V L n hi = x := ⟨_, rfl⟩
  obtain ⟨il, hil⟩ : ∃ x, isN n lo = x := ⟨_, rfl⟩
  obtain ⟨ih, hih⟩ : ∃ x, isN n hi = x := ⟨_, rfl⟩
  rw [hvl, hvh, hil, hih] at hf
  rw [hvl] at HV1; rw [hvh] at HV2; rw [hil] at HI1; rw [hih] at HI2
  have H := Lib.hid h; have HF := Lib.hid hf
  clear h hf hvl hvh hil hih hl0 hl1 hh0 hh1 hv0 hv1
  go_enter Try.func66, Try.ntmps66
  go_upto_region 1 with fail
  go_cut [52] (fun t wx => t = .bool (!fitN V L n v lo hi) ∧ Keeps (fun _ => False) w wx)
  case first =>
    by_cases h1 : v < 0
    · have hr : fitN V L n v lo hi = false := by rw [HF.out]; simp; omega
      have Hr := Lib.hid hr; clear hr
      go_wp2
      go_meet
      exact ⟨by rw [Hr.out]; rfl, Keeps.refl _ _⟩
    by_cases h2 : V ≤ v
    · have hr : fitN V L n v lo hi = false := by rw [HF.out]; simp; omega
      have Hr := Lib.hid hr; clear hr
      go_wp2
      go_meet
      exact ⟨by rw [Hr.out]; rfl, Keeps.refl _ _⟩
    cases il with
    | false =>
      have hr : fitN V L n v lo hi = false := by rw [HF.out]; simp
      have Hr := Lib.hid hr; clear hr
      go_wp2_with (go_at_call 52; refine (HI1.out _ (Keeps.refl _ _)).mono ?_; rintro e w' ⟨rfl, rfl⟩)
      go_meet
      exact ⟨by rw [Hr.out]; rfl, Keeps.refl _ _⟩
    | true =>
    cases ih with
    | false =>
      have hr : fitN V L n v lo hi = false := by rw [HF.out]; simp
      have Hr := Lib.hid hr; clear hr
      go_wp2_with fail
      refine (HI1.out _ (Keeps.refl _ _)).mono ?_
      rintro e w' ⟨rfl, rfl⟩
      go_wp2_with fail
      refine (HI2.out _ (Keeps.refl _ _)).mono ?_
      rintro e w' ⟨rfl, rfl⟩
      go_wp2
      go_meet
      exact ⟨by rw [Hr.out]; rfl, Keeps.refl _ _⟩
    | true =>
    by_cases h3 : vl ≤ v
    · have hr : fitN V L n v lo hi = false := by rw [HF.out]; simp; omega
      have Hr := Lib.hid hr; clear hr
      go_wp2_with fail
      refine (HI1.out _ (Keeps.refl _ _)).mono ?_
      rintro e w' ⟨rfl, rfl⟩
      go_wp2_with fail
      refine (HI2.out _ (Keeps.refl _ _)).mono ?_
      rintro e w' ⟨rfl, rfl⟩
      go_wp2_with fail
      refine (HV1.out _ (Keeps.refl _ _)).mono ?_
      rintro e w1 ⟨rfl, hb1⟩
      go_wp2
      go_meet
      exact ⟨by rw [Hr.out]; rfl, Keeps.of_below hb1 (Nat.le_refl _)⟩
    by_cases h4 : vh ≤ v
    · have hr : fitN V L n v lo hi = false := by rw [HF.out]; simp; omega
      have Hr := Lib.hid hr; clear hr
      go_wp2_with fail
      refine (HI1.out _ (Keeps.refl _ _)).mono ?_
      rintro e w' ⟨rfl, rfl⟩
      go_wp2_with fail
      refine (HI2.out _ (Keeps.refl _ _)).mono ?_
      rintro e w' ⟨rfl, rfl⟩
      go_wp2_with fail
      refine (HV1.out _ (Keeps.refl _ _)).mono ?_
      rintro e w1 ⟨rfl, hb1⟩
      go_wp2_with fail
      refine (HV2.out _ (Keeps.of_below hb1 (Nat.le_refl _))).mono ?_
      rintro e w2 ⟨rfl, hb2⟩
      go_wp2
      go_meet
      exact ⟨by rw [Hr.out]; first | rfl | (congr 1; simp; omega), (Keeps.of_below hb1 (Nat.le_refl _)).trans (Keeps.of_below hb2 (Nat.le_refl _))⟩
    have hr : fitN V L n v lo hi = true := by rw [HF.out]; simp; omega
    have Hr := Lib.hid hr; clear hr
    go_wp2_with fail
    refine (HI1.out _ (Keeps.refl _ _)).mono ?_
    rintro e w' ⟨rfl, rfl⟩
    go_wp2_with fail
    refine (HI2.out _ (Keeps.refl _ _)).mono ?_
    rintro e w' ⟨rfl, rfl⟩
    go_wp2_with fail
    refine (HV1.out _ (Keeps.refl _ _)).mono ?_
    rintro e w1 ⟨rfl, hb1⟩
    go_wp2_with fail
    refine (HV2.out _ (Keeps.of_below hb1 (Nat.le_refl _))).mono ?_
    rintro e w2 ⟨rfl, hb2⟩
    go_wp2
    go_meet
    exact ⟨by rw [Hr.out]; first | rfl | (congr 1; simp; omega), (Keeps.of_below hb1 (Nat.le_refl _)).trans (Keeps.of_below hb2 (Nat.le_refl _))⟩
  case rest =>
    obtain ⟨rfl, hkw⟩ := hcut
    clear HI1 HI2 HV1 HV2 HF e0
    have h2 := H.out.keeps hkw (fun _ _ x => x)
    have Hr : Hid (fitN V L n v lo hi = true → lo ≠ hi → ∀ r, idx L (v, lo, hi) n = r → resN V B L n v lo hi = match r with | some i => .old i | none => if B ≤ n then .spent else .new) := fun ha hb r hr => by
      unfold resN; rw [if_pos ha, if_neg hb, hr]; cases r <;> rfl
    have Hsame : Hid (fitN V L n v lo hi = true → lo = hi → resN V B L n v lo hi = .same) := fun ha hb => by unfold resN; rw [if_pos ha, if_pos hb]
    have Hbad : Hid (fitN V L n v lo hi = false → resN V B L n v lo hi = .bad) := fun ha => by unfold resN; rw [if_neg (by rw [ha]; simp)]
    have stay : ∀ w', Keeps (fun _ => False) w w' → ∀ r : Res, r.nodes L n (v, lo, hi) = L → r.len n = n → r.out s = s → ∃ (bp' M' : Nat) (vn' : Value) (P' : Nat → Nat), TabAll w' b bp' M' vn' V B (r.nodes L n (v, lo, hi)) (r.len n) P' (r.out s) ∧ Keeps (tabFp b bp (.slice ao n cap)) w w' ∧ (∀ k, tabFp b bp' vn' k → tabFp b bp (.slice ao n cap) k ∨ w.heap.size ≤ k) := fun w' hk r h1 h2 h3 => by
      rw [h1, h2, h3]
      exact ⟨bp, M, .slice ao n cap, P, H.out.keeps hk (fun _ _ x => x), hk.mono (fun _ _ h => h.elim), fun k hk => .inl hk⟩
    have Hstay := Lib.hid stay; clear stay
    have Hkw := Lib.hid hkw; clear hkw
    cases hfit : fitN V L n v lo hi with
    | false =>
      have Hb := Lib.hid (Hbad.out hfit)
      clear Hr Hsame Hbad hfit h2
      go_wp2
      go_ret2
      unfold MakePost
      rw [Hb.out]
      exact ⟨rfl, Hstay.out _ Hkw.out _ rfl rfl rfl⟩
    | true =>
      have hM : M ≤ 1000000000000 := by have := H.out.few; omega
      have h3 := h2.keeps ((Keeps.refl (fun _ => False) _).alloc (.cells #[.int .i64 v, .int .i64 lo, .int .i64 hi] 103)) (fun _ _ x => x)
      have HFi := Lib.hid (find_spec h3.mem n h3.placed (Nat.le_refl _) hM (by omega) v lo hi)
      have Hfit := Lib.hid hfit
      have H2 := Lib.hid h2
      clear h2 h3 hfit Hbad hM
      go_wp2_with fail
      refine HFi.out.mono ?_
      rintro e w1 ⟨at_, rfl, hfound, hb1⟩
      have hk1 : Keeps (fun _ => False) wc w1 := ((Keeps.refl _ _).alloc _).trans (Keeps.of_below hb1 (Nat.le_refl _))
      have t1 := H2.out.keeps hk1 (fun _ _ x => x)
      have hat : at_ < M := hfound.1
      have cP : w1.cell? ⟨bp, at_, none⟩ = some (.int .i64 (P at_)) := by rw [cell_of_heap t1.mem.places, placeRow_get _ _ _ hat]
      have c3 : w1.cell? ⟨b, 3, none⟩ = some (.slice (some ⟨bp, 0, none⟩) M M) := by rw [cell_of_heap t1.mem.obj]; rfl
      have T1 := Lib.hid t1; have HK1 := Lib.hid (Hkw.out.trans hk1); have Hfound := Lib.hid hfound
      have q0 : w1.cell? ⟨wc.heap.size, 0, none⟩ = some (.int .i64 v) := (hb1.cell (p := ⟨wc.heap.size, 0, none⟩) (by simp)).trans (by simp)
      have q1 : w1.cell? ⟨wc.heap.size, 1, none⟩ = some (.int .i64 lo) := (hb1.cell (p := ⟨wc.heap.size, 1, none⟩) (by simp)).trans (by simp)
      have q2 : w1.cell? ⟨wc.heap.size, 2, none⟩ = some (.int .i64 hi) := (hb1.cell (p := ⟨wc.heap.size, 2, none⟩) (by simp)).trans (by simp)
      have hz1 : wc.heap.size < w1.heap.size := by have := hb1.size; simp at this; omega
      clear hk1 t1 hfound hb1 HFi
      by_cases hlh : lo = hi
      · have Hs := Lib.hid (Hsame.out Hfit.out hlh)
        subst hlh
        clear Hr Hsame
        go_wp2
        go_ret2
        unfold MakePost
        rw [Hs.out]
        exact ⟨rfl, Hstay.out _ HK1.out _ rfl rfl rfl⟩
      · have hlh' : (lo == hi) = false := by simpa using hlh
        by_cases hP0 : P at_ = 0
        · rw [hP0] at cP
          have hnone : idx L (v, lo, hi) n = none := by
            rcases Hfound.out.2 with h | ⟨i, _, h1, _⟩
            · exact idx_none' h.2.1
            · omega
          have Hres := Lib.hid (Hr.out Hfit.out hlh none hnone)
          have Hnone := Lib.hid hnone
          have HP0 := Lib.hid hP0
          clear Hr Hsame hlh hnone hP0
          have c1 : w1.cell? ⟨b, 1, none⟩ = some (.int .i64 B) := by rw [cell_of_heap T1.out.mem.obj]; rfl
          have HLen : Hid (∀ W, Keeps (fun _ => False) w1 W → Calls Try.prog 71 #[.pointer (some ⟨b, 0, none⟩)] W fun e w' => e = .returned (.int .i64 n) ∧ w' = W) := fun W hW => (tlen_spec (T1.out.keeps hW (fun _ _ x => x)).mem (by omega)).mono fun e w' h => ⟨h.1, h.2.symm⟩
          have hk4 : Hid (∀ nq, Keeps (fun _ => False) w (w1.drewN nq)) := fun nq => HK1.out.drewN nq
          by_cases hB : B ≤ (n : Int)
          · rw [if_pos hB] at Hres
            have f4 : ∀ o, w1.frozen? ⟨b, o, none⟩ = false := fun o => free_of_heap T1.out.mem.obj o
            have c4 : w1.cell? ⟨b, 4, none⟩ = some (.bool s) := by rw [cell_of_heap T1.out.mem.obj]; rfl
            go_wp2_with fail
            go_quiet ((go_at_call 71; exact Calls.quiet_of_same (HLen.out _ (by first | exact Keeps.refl _ _ | exact (Keeps.refl _ _).drewN _ | exact (Keeps.refl _ _).drew))))
            go_wp2
            go_ret2
            unfold MakePost
            rw [Hres.out]
            refine ⟨rfl, bp, M, .slice ao n cap, P, ⟨(T1.out.mem.keeps ((Keeps.refl (fun _ => False) _).drewN nq) (fun _ _ x => x)).spend, H.out.good, H.out.placed, H.out.half, H.out.few, H.out.most⟩, ?_, fun k hk => .inl hk⟩
            exact Keeps.setCell (S := tabFp b bp (.slice ao n cap)) ((hk4.out nq).mono (fun _ _ h => h.elim)) (p := ⟨b, 4, none⟩) (fun _ => .inl rfl) _
          · rw [if_neg hB] at Hres
            go_wp2_with fail
            go_quiet ((go_at_call 71; exact Calls.quiet_of_same (HLen.out _ (by first | exact Keeps.refl _ _ | exact (Keeps.refl _ _).drewN _ | exact (Keeps.refl _ _).drew))))
            have kq : Keeps (fun _ => False) w1 (w1.drewN nq) := (Keeps.refl _ _).drewN _
            have q0' := (kq.cell (p := ⟨wc.heap.size, 0, none⟩) hz1 (fun x => x)).trans q0
            have q1' := (kq.cell (p := ⟨wc.heap.size, 1, none⟩) hz1 (fun x => x)).trans q1
            have q2' := (kq.cell (p := ⟨wc.heap.size, 2, none⟩) hz1 (fun x => x)).trans q2
            have hzq : wc.heap.size < (w1.drewN nq).heap.size := hz1
            clear q0 q1 q2 c1 c3 cP hz1 hk4
            generalize w1.drewN nq = wq at kq q0' q1' q2' hzq ⊢
            have tq := T1.out.keeps kq (fun _ _ x => x)
            have HKq := Lib.hid (HK1.out.trans kq)
            have c2 : wq.cell? ⟨b, 2, none⟩ = some (.slice ao n cap) := by rw [cell_of_heap tq.mem.obj]; rfl
            have Hown : Hid (∀ W, Keeps (fun _ => False) wq W → W.ownsRow 0 103 3 (.slice ao n cap) n (ndRow L n)) := fun W hW => (tq.keeps hW (fun _ _ x => x)).mem.nodes
            have HB2 : Hid (∀ W W', Keeps (fun _ => False) wq W → W.grownBy W' (Value.slice ao n cap).ownBlock → W'.cell? ⟨b, 2, none⟩ = some (.slice ao n cap) ∧ W'.frozen? ⟨b, 2, none⟩ = false) := fun W W' hW hg => by
              have t := (tq.keeps hW (fun _ _ x => x)).mem
              have ob := ((keeps_grown hg).block b (lt_of_heap t.obj) t.ne.2.1).trans t.obj
              exact ⟨by rw [cell_of_heap ob]; rfl, free_of_heap ob 2⟩
            obtain ⟨i0, hi0, hz0, hz1', hz2⟩ := info_parts ndInfo
            have lb1 : b < wq.heap.size := lt_of_heap tq.mem.obj
            have TQ := Lib.hid tq
            clear tq kq T1 HK1 HLen
            go_upto_region 12 with fail
            go_cut [] (fun wx => MidInv b bp M ao n cap V B L P s (v, lo, hi) wq wx)
            case first =>
              go_region_law (refine step_append_fp rfl (.tmp 96) (.tmp 98) 85 rfl 103 i0 _ 3 24 Try.underlying85 hi0 hz0 hz1' hz2 rfl (by decide) (.slice ao n cap) n (ndRow L n) (by simp [Act.eval, Act.put]) (Hown.out _ (((Keeps.refl _ _).drew).alloc _)) ⟨wq.heap.size, 0, none⟩ 1 1 [.int .i64 v, .int .i64 lo, .int .i64 hi] (by simp [Act.eval, Act.put]) rfl (cells_new _ _ _) (by intro u hu; simp only [List.mem_cons, List.not_mem_nil, or_false] at hu; rcases hu with rfl | rfl | rfl <;> rfl) (by omega) (by unfold maxLen; omega) (by omega) ?_; intro ao' cap' w2 hown hgrow hfp; obtain ⟨e2, f2⟩ := HB2.out _ _ (((Keeps.refl _ _).drew).alloc _) hgrow; have Hown2 := Lib.hid hown; have Hgr := Lib.hid hgrow; have Hfp := Lib.hid hfp; clear hown hgrow hfp)
              all_goals (go_wp2_with fail; go_meet; exact mid_of (((Keeps.refl _ _).drew).alloc _) TQ.out.mem Hown2.out Hgr.out Hfp.out)
            case rest =>
              obtain ⟨ao2, cap2, hm2, hk2, hf2⟩ := hcut
              clear q0' q1' q2' hzq c2 Hown HB2 hi0 hz0 hz1' hz2
              have e2 : wc.cell? ⟨b, 2, none⟩ = some (.slice ao2 (n + 1) cap2) := by rw [cell_of_heap hm2.obj]; rfl
              have e3 : wc.cell? ⟨b, 3, none⟩ = some (.slice (some ⟨bp, 0, none⟩) M M) := by rw [cell_of_heap hm2.obj]; rfl
              have eP : wc.cell? ⟨bp, at_, none⟩ = some (.int .i64 (P at_)) := by rw [cell_of_heap hm2.places, placeRow_get _ _ _ hat]
              have fP : wc.frozen? ⟨bp, at_, none⟩ = false := free_of_heap hm2.places at_
              have hbbp : ¬ bp = b := fun e => hm2.ne.1 e.symm
              have m3 := hm2.put at_ (n + 2) hat
              have ee : ((n + 2 : Nat) : Int) = (n : Int) + 2 := by omega
              rw [ee] at m3
              have hlt : n + 1 < M := by have := H.out.half; have := H.out.most; omega
              have hadd : ∀ i, i < n → L i = addN L n (v, lo, hi) i := fun i hi => by unfold addN; rw [if_neg (by omega)]
              have pl : Placed (startAt M) (addN L n (v, lo, hi)) (n + 1) M (setP P at_ (n + 2)) := by
                refine (H.out.placed.congr hadd).insert ?_ HP0.out hlt
                have e1 : addN L n (v, lo, hi) n = (v, lo, hi) := by unfold addN; rw [if_pos rfl]
                rw [e1]
                exact Hfound.out.congr hadd
              have gd : NodePlain.Good V (addN L n (v, lo, hi)) (n + 1) := H.out.good.add Hfit.out (by simpa using hlh') Hnone.out
              have kx : Keeps (tabFp b bp (.slice ao n cap)) w wc := (HKq.out.mono (fun _ _ h => h.elim)).trans hk2
              have k3 : Keeps (tabFp b bp (.slice ao n cap)) w (wc.setCell ⟨bp, at_, none⟩ (.int .i64 ((n : Int) + 2))) := Keeps.setCell (S := tabFp b bp (.slice ao n cap)) kx (p := ⟨bp, at_, none⟩) (fun _ => .inr (.inl rfl)) _
              have hzw : w.heap.size ≤ wq.heap.size := HKq.out.size
              have d2 : (wc.setCell ⟨bp, at_, none⟩ (.int .i64 ((n : Int) + 2))).cell? ⟨b, 2, none⟩ = some (.slice ao2 (n + 1) cap2) := by rw [cell_of_heap m3.obj]; rfl
              have d3 : (wc.setCell ⟨bp, at_, none⟩ (.int .i64 ((n : Int) + 2))).cell? ⟨b, 3, none⟩ = some (.slice (some ⟨bp, 0, none⟩) M M) := by rw [cell_of_heap m3.obj]; rfl
              have hw2 : IntKind.i64.wrap (2 * ((n : Int) + 1)) = 2 * ((n : Int) + 1) := IntWalk.i64_in _ (by omega)
              have M3 := Lib.hid m3; have PL := Lib.hid pl; have GD := Lib.hid gd; have K3 := Lib.hid k3
              clear m3 pl gd k3 kx hadd ee hm2 hk2
              have hfp2 : Hid (∀ k, (Value.slice ao2 (n + 1) cap2).ownBlock = some k → (Value.slice ao n cap).ownBlock = some k ∨ w.heap.size ≤ k) := fun k hk => (hf2 k hk).imp id (fun h => by omega)
              clear hf2
              have hnI : (n : Int) ≤ 1000000000 := by omega
              by_cases hg : (M : Int) < 2 * ((n : Int) + 1)
              · have HG := Lib.hid (fun nq => grow_any (M3.out.keeps ((Keeps.refl (fun _ => False) _).drewN nq) (fun _ _ h => h)) GD.out.inj (by omega) (by have := H.out.few; omega) (by omega))
                go_wp2_with fail
                go_quiet (fail)
                go_wp2_with fail
                refine (HG.out _).mono ?_
                rintro e w5 ⟨bp5, P5, rfl, t5, p5, k5, hb5⟩
                go_wp2
                go_ret2
                unfold MakePost
                rw [Hres.out]
                refine ⟨rfl, bp5, 2 * M, _, P5, ⟨t5, GD.out, p5, by simp only [Res.len]; omega, by simp only [Res.len]; omega, by have := H.out.most; omega⟩, (K3.out.drewN _).trans (k5.mono (fun _ _ h => .inl h)), fun k hk => ?_⟩
                have hsz := K3.out.size
                rcases hk with h | h | h
                · exact .inl (.inl h)
                · exact .inr (by rw [h]; exact Nat.le_trans hsz hb5)
                · exact (hfp2.out k h).imp (fun h => .inr (.inr h)) id
              · go_wp2_with fail
                go_quiet (fail)
                go_wp2
                go_ret2
                unfold MakePost
                rw [Hres.out]
                refine ⟨rfl, bp, M, _, _, ⟨M3.out.keeps ((Keeps.refl (fun _ => False) _).drewN _) (fun _ _ h => h), GD.out, PL.out, by simp only [Res.len]; omega, by have := H.out.few; simp only [Res.len]; omega, H.out.most⟩, K3.out.drewN _, fun k hk => ?_⟩
                rcases hk with h | h | h
                · exact .inl (.inl h)
                · exact .inl (.inr (.inl h))
                · exact (hfp2.out k h).imp (fun h => .inr (.inr h)) id
        · obtain ⟨i, hin, hPi, hLi⟩ : ∃ i, i < n ∧ P at_ = i + 2 ∧ L i = (v, lo, hi) := by
            rcases Hfound.out.2 with h | h
            · exact absurd h.1 hP0
            · exact h
          have Hres := Lib.hid (Hr.out Hfit.out hlh (some i) (idx_eq H.out.good.inj hin hLi))
          rw [hPi] at cP
          have hc0 : ((i + 2 : Nat) : Int) = (i : Int) + 2 := by omega
          rw [hc0] at cP
          have hne : ((i : Int) + 2 == 0) = false := by simp; omega
          clear Hr Hsame hlh hPi hLi hc0 hP0
          go_wp2
          go_ret2
          unfold MakePost
          rw [Hres.out]
          exact ⟨rfl, Hstay.out _ HK1.out _ rfl rfl rfl⟩
end
end Go.Proofs.Ytloidoekmicloaa
