/-
  The document's Make.
-/
import Derived.Test.YtmljmpjpdgijlaaNodeRef
set_option linter.unusedVariables false
set_option linter.unusedSimpArgs false
namespace Go.Proofs.Ytmljmpjpdgijlaa
open Go.ChangeShapes Go.WideShapes Go.ChangeAt Go.RowKit Go.Deep NodePlain

def RefMakePost (b : Nat) (vn : Value) (V B : Int) (L : Nat → Nd) (n : Nat) (s : Bool) (x : Nd) (r : Res) (w : World) (e : Ending) (w' : World) : Prop :=
  e = .returned (.tuple #[.int .i64 (r.num n x.2.1), .int .i64 r.err]) ∧
    ∃ (vn' : Value), RefMem w' b vn' V B (r.nodes L n x) (r.len n) (r.out s) ∧ Keeps (refFp b vn) w w' ∧ (∀ k, refFp b vn' k → refFp b vn k ∨ w.heap.size ≤ k)

theorem RefMem.spend {w : World} {b : Nat} {vn : Value} {V B : Int} {L : Nat → Nd} {n : Nat} {s : Bool} (h : RefMem w b vn V B L n s) : RefMem (w.setCell ⟨b, 3, none⟩ (.bool true)) b vn V B L n true := by
  have hne := h.ne
  have kk := Keeps.setCell (S := fun k => k = b) (Keeps.refl _ w) (p := ⟨b, 3, none⟩) (fun _ => rfl) (.bool true)
  exact ⟨heap_set h.obj 3 _, ownsRow_keeps' h.nodes kk (fun k hk e => by subst e; exact hne hk)⟩

theorem refMid_of {wq W w2 : World} {b n cap cap' : Nat} {ao ao' : Option Addr} {V B : Int} {L : Nat → Nd} {s : Bool} {x : Nd} (kW : Keeps (fun _ => False) wq W) (t : RefMem wq b (.slice ao n cap) V B L n s)
    (hown : w2.ownsRow 0 58 3 (.slice ao' (n + 1) cap') (n + 1) (ndRow L n ++ ndCells x)) (hgr : W.grownBy w2 (Value.slice ao n cap).ownBlock) (hfp : ∀ k, (Value.slice ao' (n + 1) cap').ownBlock = some k → (Value.slice ao n cap).ownBlock = some k ∨ W.heap.size ≤ k) :
    RefMem (w2.setCell ⟨b, 2, none⟩ (.slice ao' (n + 1) cap')) b (.slice ao' (n + 1) cap') V B (addN L n x) (n + 1) s ∧ Keeps (refFp b (.slice ao n cap)) wq (w2.setCell ⟨b, 2, none⟩ (.slice ao' (n + 1) cap')) ∧ (∀ k, refFp b (.slice ao' (n + 1) cap') k → refFp b (.slice ao n cap) k ∨ wq.heap.size ≤ k) := by
  have tW := t.keeps kW (fun _ _ h => h)
  have hne := tW.ne
  have kg := keeps_grown hgr
  have ob := (kg.block b (lt_of_heap tW.obj) hne).trans tW.obj
  have kk := Keeps.setCell (S := fun k => k = b) (Keeps.refl _ w2) (p := ⟨b, 2, none⟩) (fun _ => rfl) (.slice ao' (n + 1) cap')
  refine ⟨⟨heap_set ob 2 _, ?_⟩, ?_, fun k hk => ?_⟩
  · rw [ndRow_add]
    refine ownsRow_keeps' hown kk (fun k hk e => ?_)
    subst e
    rcases hfp _ hk with h | h
    · exact hne h
    · have := lt_of_heap tW.obj; omega
  · refine Keeps.setCell (S := refFp b (.slice ao n cap)) ?_ (p := ⟨b, 2, none⟩) (fun _ => .inl rfl) _
    exact (kW.mono (fun _ _ h => h.elim)).trans (kg.mono (fun k _ h => .inr h))
  · rcases hk with h | hk
    · exact .inl (.inl h)
    rcases hfp k hk with h | h
    · exact .inl (.inr h)
    · exact .inr (Nat.le_trans kW.size h)
theorem idx_more {L : Nat → Nd} {x : Nd} {k : Nat} (h : idx L x k = none) (hx : L k = x) : ∀ n, k < n → idx L x n = some k
  | 0, hk => absurd hk (Nat.not_lt_zero _)
  | n + 1, hk => by
    unfold idx
    rcases Nat.lt_or_ge k n with h1 | h1
    · rw [idx_more h hx n h1]
    · obtain rfl : k = n := by omega
      rw [h]; simp [hx]
theorem idx_next {L : Nat → Nd} {x : Nd} {k : Nat} (h : idx L x k = none) (hx : ¬ L k = x) : idx L x (k + 1) = none := by
  unfold idx
  rw [h]; simp [hx]

section
variable {w : World} {b : Nat} {vn : Value} {V B : Int} {L : Nat → Nd} {n : Nat} {s : Bool}
set_option maxRecDepth 100000 in
set_option maxHeartbeats 3200000 in
theorem rmake_spec (h : RefMem w b vn V B L n s) (hn : n ≤ 1000000000) (v lo hi : Int) (hv0 : -9223372036854775808 ≤ v) (hv1 : v ≤ 9223372036854775807) (hl0 : -9223372036854775808 ≤ lo) (hl1 : lo ≤ 9223372036854775807) (hh0 : -9223372036854775808 ≤ hi) (hh1 : hi ≤ 9223372036854775807) :
    Calls Try.prog 33 #[.pointer (some ⟨b, 0, none⟩), .int .i64 v, .int .i64 lo, .int .i64 hi] w (RefMakePost b vn V B L n s (v, lo, hi) (resN V B L n v lo hi) w) := by
  have HI1 := Lib.hid (ris_spec h (by omega) lo hl1); have HI2 := Lib.hid (ris_spec h (by omega) hi hh1)
  have HV1 := Lib.hid (rvar_spec h (by omega) lo hl0 hl1); have HV2 := Lib.hid (rvar_spec h (by omega) hi hh0 hh1)
  have e0 : w.cell? ⟨b, 0, none⟩ = some (.int .i64 V) := by rw [cell_of_heap h.obj]; rfl
  obtain ⟨ao, cap, rfl, hle, hmx, hrow0⟩ := h.row
  unfold maxLen at hmx
  have HR := Lib.hid hrow0
  clear hrow0
  have hf : fitN V L n v lo hi = decide (0 ≤ v ∧ v < V ∧ isN n lo = true ∧ isN n hi = true ∧ v < varN V L n lo ∧ v < varN V L n hi) := rfl
  obtain ⟨vl, hvl⟩ : ∃ x, varN V L n lo = x := ⟨_, rfl⟩
  obtain ⟨vh, hvh⟩ : ∃ x, varN V L n hi = x := ⟨_, rfl⟩
  obtain ⟨il, hil⟩ : ∃ x, isN n lo = x := ⟨_, rfl⟩
  obtain ⟨ih, hih⟩ : ∃ x, isN n hi = x := ⟨_, rfl⟩
  rw [hvl, hvh, hil, hih] at hf
  rw [hvl] at HV1; rw [hvh] at HV2; rw [hil] at HI1; rw [hih] at HI2
  have H := Lib.hid h; have HF := Lib.hid hf
  clear h hf hvl hvh hil hih hl0 hl1 hh0 hh1 hv0 hv1
  go_enter Try.func33, Try.ntmps33
  go_upto_region 1 with fail
  go_cut [48] (fun t wx => t = .bool (!fitN V L n v lo hi) ∧ w = wx)
  case first =>
    by_cases h1 : v < 0
    · have hr : fitN V L n v lo hi = false := by rw [HF.out]; simp; omega
      have Hr := Lib.hid hr; clear hr
      go_wp2
      go_meet
      exact ⟨by rw [Hr.out]; rfl, rfl⟩
    by_cases h2 : V ≤ v
    · have hr : fitN V L n v lo hi = false := by rw [HF.out]; simp; omega
      have Hr := Lib.hid hr; clear hr
      go_wp2
      go_meet
      exact ⟨by rw [Hr.out]; rfl, rfl⟩
    cases il with
    | false =>
      have hr : fitN V L n v lo hi = false := by rw [HF.out]; simp
      have Hr := Lib.hid hr; clear hr
      go_wp2_with fail
      refine HI1.out.mono ?_
      rintro e w' ⟨rfl, rfl⟩
      go_wp2
      go_meet
      exact ⟨by rw [Hr.out]; rfl, rfl⟩
    | true =>
    cases ih with
    | false =>
      have hr : fitN V L n v lo hi = false := by rw [HF.out]; simp
      have Hr := Lib.hid hr; clear hr
      go_wp2_with fail
      refine HI1.out.mono ?_
      rintro e w' ⟨rfl, rfl⟩
      go_wp2_with fail
      refine HI2.out.mono ?_
      rintro e w' ⟨rfl, rfl⟩
      go_wp2
      go_meet
      exact ⟨by rw [Hr.out]; rfl, rfl⟩
    | true =>
    by_cases h3 : vl ≤ v
    · have hr : fitN V L n v lo hi = false := by rw [HF.out]; simp; omega
      have Hr := Lib.hid hr; clear hr
      go_wp2_with fail
      refine HI1.out.mono ?_
      rintro e w' ⟨rfl, rfl⟩
      go_wp2_with fail
      refine HI2.out.mono ?_
      rintro e w' ⟨rfl, rfl⟩
      go_wp2_with fail
      refine HV1.out.mono ?_
      rintro e w1 ⟨rfl, rfl⟩
      go_wp2
      go_meet
      exact ⟨by rw [Hr.out]; rfl, rfl⟩
    have hr : fitN V L n v lo hi = decide (v < vh) := by rw [HF.out, Bool.eq_iff_iff]; simp; omega
    have Hr := Lib.hid hr; clear hr
    go_wp2_with fail
    refine HI1.out.mono ?_
    rintro e w' ⟨rfl, rfl⟩
    go_wp2_with fail
    refine HI2.out.mono ?_
    rintro e w' ⟨rfl, rfl⟩
    go_wp2_with fail
    refine HV1.out.mono ?_
    rintro e w1 ⟨rfl, rfl⟩
    go_wp2_with fail
    refine HV2.out.mono ?_
    rintro e w2 ⟨rfl, rfl⟩
    go_wp2
    go_meet
    exact ⟨by rw [Hr.out]; congr 1; rw [Bool.eq_iff_iff]; simp; omega, rfl⟩
  case rest =>
    obtain ⟨rfl, rfl⟩ := hcut
    clear HI1 HI2 HV1 HV2 HF e0
    have Hr : Hid (fitN V L n v lo hi = true → lo ≠ hi → ∀ r, idx L (v, lo, hi) n = r → resN V B L n v lo hi = match r with | some i => .old i | none => if B ≤ n then .spent else .new) := fun ha hb r hr => by
      unfold resN; rw [if_pos ha, if_neg hb, hr]; cases r <;> rfl
    have Hsame : Hid (fitN V L n v lo hi = true → lo = hi → resN V B L n v lo hi = .same) := fun ha hb => by unfold resN; rw [if_pos ha, if_pos hb]
    have Hbad : Hid (fitN V L n v lo hi = false → resN V B L n v lo hi = .bad) := fun ha => by unfold resN; rw [if_neg (by rw [ha]; simp)]
    have stay : ∀ w', Keeps (fun _ => False) w w' → ∀ r : Res, r.nodes L n (v, lo, hi) = L → r.len n = n → r.out s = s → ∃ (vn' : Value), RefMem w' b vn' V B (r.nodes L n (v, lo, hi)) (r.len n) (r.out s) ∧ Keeps (refFp b (.slice ao n cap)) w w' ∧ (∀ k, refFp b vn' k → refFp b (.slice ao n cap) k ∨ w.heap.size ≤ k) := fun w' hk r h1 h2 h3 => by
      rw [h1, h2, h3]
      exact ⟨.slice ao n cap, H.out.keeps hk (fun _ _ x => x), hk.mono (fun _ _ h => h.elim), fun k hk => .inl hk⟩
    have Hstay := Lib.hid stay; clear stay
    cases hfit : fitN V L n v lo hi with
    | false =>
      have Hb := Lib.hid (Hbad.out hfit)
      clear Hr Hsame Hbad hfit
      go_wp2
      go_ret2
      unfold RefMakePost
      rw [Hb.out]
      exact ⟨rfl, Hstay.out _ (Keeps.refl _ _) _ rfl rfl rfl⟩
    | true =>
      have Hfit := Lib.hid hfit
      clear hfit Hbad
      by_cases hlh : lo = hi
      · have Hs := Lib.hid (Hsame.out Hfit.out hlh)
        subst hlh
        clear Hr Hsame
        go_wp2
        go_ret2
        unfold RefMakePost
        rw [Hs.out]
        exact ⟨rfl, Hstay.out _ (Keeps.refl _ _) _ rfl rfl rfl⟩
      · have hlh' : (lo == hi) = false := by simpa using hlh
        have Hlh := Lib.hid hlh
        clear Hsame hlh
        have c2 : w.cell? ⟨b, 2, none⟩ = some (.slice ao n cap) := by rw [cell_of_heap H.out.obj]; rfl
        have lb : b < w.heap.size := lt_of_heap H.out.obj
        go_wp2_with fail
        clear c2
        go_loopg [62] n (fun g s' wr => ∃ k : Nat, k ≤ n ∧ g = n - k ∧ s' = .int .i64 k ∧ Hid (idx L (v, lo, hi) k = none) ∧ Keeps (fun _ => False) (w.alloc (.cells #[.int .i64 v, .int .i64 lo, .int .i64 hi] 58)) wr)
        case atStart => exact ⟨0, Nat.zero_le _, rfl, rfl, rfl, Keeps.refl _ _⟩
        case round =>
          obtain ⟨k, hk, rfl, rfl, hid, hkp⟩ := hrel
          have q0 : wr.cell? ⟨w.heap.size, 0, none⟩ = some (.int .i64 v) := (hkp.cell (p := ⟨w.heap.size, 0, none⟩) (by simp) (fun x => x)).trans (by simp)
          have q1 : wr.cell? ⟨w.heap.size, 1, none⟩ = some (.int .i64 lo) := (hkp.cell (p := ⟨w.heap.size, 1, none⟩) (by simp) (fun x => x)).trans (by simp)
          have q2 : wr.cell? ⟨w.heap.size, 2, none⟩ = some (.int .i64 hi) := (hkp.cell (p := ⟨w.heap.size, 2, none⟩) (by simp) (fun x => x)).trans (by simp)
          have hz1 : w.heap.size < wr.heap.size := by have := hkp.size; simp at this; omega
          have HK : Hid (Keeps (fun _ => False) w wr) := ((Keeps.refl _ _).alloc _).trans hkp
          by_cases hlt : k < n
          · obtain ⟨g, rfl, hg, hrw⟩ := HR.out (by omega)
            obtain ⟨r0, r1, r2⟩ := hrw k hlt
            rw [← HK.out.cell (p := ⟨g, _, none⟩) hg (fun x => x)] at r0 r1 r2
            obtain ⟨⟨a0, a1, a2⟩, hLk⟩ : ∃ p, p = L k := ⟨_, rfl⟩
            rw [← hLk] at r0 r1 r2
            simp only [] at r0 r1 r2
            have heq := fun W => node_eql v lo hi a0 a1 a2 W
            by_cases hm : (v, lo, hi) = (a0, a1, a2)
            · rw [decide_eq_true hm] at heq
              have Hx := Lib.hid (Hr.out Hfit.out Hlh.out (some k) (idx_more hid.out (hLk.symm.trans hm.symm) n hlt))
              clear hm hLk Hr hrw
              go_wp2
              go_ret2
              unfold RefMakePost
              rw [Hx.out]
              exact ⟨rfl, Hstay.out _ (HK.out.alloc _) _ rfl rfl rfl⟩
            · rw [decide_eq_false hm] at heq
              have Hn := Lib.hid (idx_next (L := L) (x := (v, lo, hi)) (k := k) hid.out (fun e => hm (e.symm.trans hLk.symm)))
              clear hm hLk hrw
              go_wp2_with fail
              go_roundg (n - (k + 1))
              case measure => omega
              case rel => exact ⟨k + 1, by omega, rfl, by go_num, Hn.out, hkp.alloc _⟩
          · obtain rfl : k = n := by omega
            have Hx := Lib.hid (Hr.out Hfit.out Hlh.out none hid.out)
            have t := H.out.keeps HK.out (fun _ _ x => x)
            have c1 : wr.cell? ⟨b, 1, none⟩ = some (.int .i64 B) := by rw [cell_of_heap t.obj]; rfl
            have c2 : wr.cell? ⟨b, 2, none⟩ = some (.slice ao k cap) := by rw [cell_of_heap t.obj]; rfl
            have c3 : wr.cell? ⟨b, 3, none⟩ = some (.bool s) := by rw [cell_of_heap t.obj]; rfl
            have f3 : ∀ o, wr.frozen? ⟨b, o, none⟩ = false := fun o => free_of_heap t.obj o
            have T := Lib.hid t
            clear t hkp Hr hid
            by_cases hB : B ≤ (k : Int)
            · rw [if_pos hB] at Hx
              go_wp2_with fail
              go_quiet (fail)
              go_wp2
              go_ret2
              unfold RefMakePost
              rw [Hx.out]
              refine ⟨rfl, .slice ao k cap, (T.out.keeps ((Keeps.refl (fun _ => False) _).drewN nq) (fun _ _ x => x)).spend, ?_, fun k hk => .inl hk⟩
              exact Keeps.setCell (S := refFp b (.slice ao k cap)) ((HK.out.drewN nq).mono (fun _ _ h => h.elim)) (p := ⟨b, 3, none⟩) (fun _ => .inl rfl) _
            · rw [if_neg hB] at Hx
              go_wp2_with fail
              go_quiet (fail)
              have kq : Keeps (fun _ => False) wr (wr.drewN nq) := (Keeps.refl _ _).drewN _
              have q0' := (kq.cell (p := ⟨w.heap.size, 0, none⟩) hz1 (fun x => x)).trans q0
              have q1' := (kq.cell (p := ⟨w.heap.size, 1, none⟩) hz1 (fun x => x)).trans q1
              have q2' := (kq.cell (p := ⟨w.heap.size, 2, none⟩) hz1 (fun x => x)).trans q2
              clear q0 q1 q2 c1 c2 c3 f3 hz1
              generalize wr.drewN nq = wq at kq q0' q1' q2' ⊢
              have tq := T.out.keeps kq (fun _ _ x => x)
              have HKq := Lib.hid (HK.out.trans kq)
              have c2 : wq.cell? ⟨b, 2, none⟩ = some (.slice ao k cap) := by rw [cell_of_heap tq.obj]; rfl
              have Hown : Hid (∀ W, Keeps (fun _ => False) wq W → W.ownsRow 0 58 3 (.slice ao k cap) k (ndRow L k)) := fun W hW => (tq.keeps hW (fun _ _ x => x)).nodes
              have HB2 : Hid (∀ W W', Keeps (fun _ => False) wq W → W.grownBy W' (Value.slice ao k cap).ownBlock → W'.cell? ⟨b, 2, none⟩ = some (.slice ao k cap) ∧ W'.frozen? ⟨b, 2, none⟩ = false) := fun W W' hW hg => by
                have t := tq.keeps hW (fun _ _ x => x)
                have ob := ((keeps_grown hg).block b (lt_of_heap t.obj) t.ne).trans t.obj
                exact ⟨by rw [cell_of_heap ob]; rfl, free_of_heap ob 2⟩
              obtain ⟨i0, hi0, hz0, hz1', hz2⟩ := info_parts ndInfo
              have lb1 : b < wq.heap.size := lt_of_heap tq.obj
              have TQ := Lib.hid tq
              clear tq kq T HK
              go_upto_region 15 with fail
              go_cut [] (fun wx => ∃ ao' cap', RefMem wx b (.slice ao' (k + 1) cap') V B (addN L k (v, lo, hi)) (k + 1) s ∧ Keeps (refFp b (.slice ao k cap)) wq wx ∧ (∀ j, refFp b (.slice ao' (k + 1) cap') j → refFp b (.slice ao k cap) j ∨ wq.heap.size ≤ j))
              case first =>
                go_region_law (refine step_append_fp rfl (.tmp 90) (.tmp 92) 52 rfl 58 i0 _ 3 24 Try.underlying52 hi0 hz0 hz1' hz2 rfl (by decide) (.slice ao k cap) k (ndRow L k) (by simp [Act.eval, Act.put]) (Hown.out _ (((Keeps.refl _ _).drew).alloc _)) ⟨wq.heap.size, 0, none⟩ 1 1 [.int .i64 v, .int .i64 lo, .int .i64 hi] (by simp [Act.eval, Act.put]) rfl (cells_new _ _ _) (by intro u hu; simp only [List.mem_cons, List.not_mem_nil, or_false] at hu; rcases hu with rfl | rfl | rfl <;> rfl) (by omega) (by unfold maxLen; omega) (by omega) ?_; intro ao' cap' w2 hown hgrow hfp; obtain ⟨e2, f2⟩ := HB2.out _ _ (((Keeps.refl _ _).drew).alloc _) hgrow; have Hown2 := Lib.hid hown; have Hgr := Lib.hid hgrow; have Hfp := Lib.hid hfp; clear hown hgrow hfp)
                all_goals (go_wp2_with fail; go_meet; exact ⟨_, _, refMid_of (((Keeps.refl _ _).drew).alloc _) TQ.out Hown2.out Hgr.out Hfp.out⟩)
              case rest =>
                obtain ⟨ao2, cap2, hm2, hk2, hf2⟩ := hcut
                have e2 : wc.cell? ⟨b, 2, none⟩ = some (.slice ao2 (k + 1) cap2) := by rw [cell_of_heap hm2.obj]; rfl
                have HM2 := Lib.hid hm2; have HK2 := Lib.hid hk2; have HF2 := Lib.hid hf2
                clear hm2 hk2 hf2 q0' q1' q2' c2 Hown HB2 hi0 hz0 hz1' hz2
                have hnI : (k : Int) ≤ 1000000000 := by omega
                go_wp2
                go_ret2
                unfold RefMakePost
                rw [Hx.out]
                refine ⟨rfl, .slice ao2 (k + 1) cap2, HM2.out, (HKq.out.mono (fun _ _ h => h.elim)).trans HK2.out, fun j hj => (HF2.out j hj).imp id (fun h => Nat.le_trans HKq.out.size h)⟩
end
end Go.Proofs.Ytmljmpjpdgijlaa
