/-
  The walk of the maker's look.
-/
import Derived.Test.YtckjgefpelnkoaaDoorSemLook
import Derived.Deep.QuietTactic
import Derived.BigQuiet
set_option linter.unusedVariables false
set_option linter.unusedSimpArgs false
set_option linter.unnecessarySimpa false
namespace Go.Proofs.YtckjgefpelnkoaaDoor
open Go.ChangeShapes Go.WideShapes Go.ChangeAt Go.RowKit Go.Deep SetPlain
section
variable {W : World} {M : Mk} {vr : Nat → Value} {L : Nat → List Rl} {s : St} {vq : Value}
set_option maxRecDepth 100000 in
set_option maxHeartbeats 3200000 in
theorem slook_spec (h : SemAt W M vr L s vq) (hT : TabIn W) (hTn : ¬ semFp M vr vq 0) (fr fw : Nat) (hf1 : fr < M.N) (hf2 : fw < M.P) (hK : 0 < M.K)
    (hB : ∀ r, r ∈ L fr → rightB M.P M.K r = true ∧ keepB M.N r fr = true) (hV : ∀ r, r ∈ L (M.N + fr % M.K) → rightB M.P M.K r = true ∧ keepB M.N r (M.N + fr % M.K) = true)
    (hF : Few (s.look M.N M.P M.K L (fr, fw))) :
    Calls Tryd.prog 23 #[.pointer (some ⟨M.mb, 0, none⟩), .agg #[.int .i64 fr, .int .i64 fw]] W (AddPostS M vr L vq (s.look M.N M.P M.K L (fr, fw)) W) := by
  have hP64 := h.hP
  have hK64 := h.hK
  have hNle : M.N ≤ 64 * 64 := Nat.mul_le_mul hP64 hK64
  obtain ⟨ao, cap, hv, hle, hmx⟩ := h.rowV (i := fr) (by omega)
  have hvm : fr % M.K < M.K := Nat.mod_lt _ hK
  obtain ⟨ao2, cap2, hv2, hle2, hmx2⟩ := h.rowV (i := M.N + fr % M.K) (by omega)
  unfold maxLen at hmx hmx2
  have k0 : Keeps (fun _ => False) W (W.alloc (.cells #[.int .i64 fr, .int .i64 fw] 57)) := (Keeps.refl _ _).alloc _
  have h1 := h.keeps k0
  have hL0 : LookF W M vr L vq W.heap.size (fr, fw) s vq (W.alloc (.cells #[.int .i64 fr, .int .i64 fw] 57)) :=
    ⟨h1, SemStep.quiet k0, by simp, by simp, fun hx => by have := SemMem.lt h _ hx; omega, hT.keeps k0 (fun x => x), hTn⟩
  have hL1 := hL0.quiet ((Keeps.refl _ _).drew)
  obtain ⟨m0, m1, m2, m3⟩ := h1.mcells
  have bc := h1.byCell hf1
  rw [hv] at bc
  have hf1I : (fr : Int) < (M.N : Int) := by omega
  have hbox : (W.alloc (.cells #[.int .i64 fr, .int .i64 fw] 57)).cell? ⟨W.heap.size, 0, none⟩ = some (.int .i64 fr) := hL0.f0
  have HL1 := Lib.hid hL1
  have HB := Lib.hid hB
  have HV := Lib.hid hV
  have HF := Lib.hid hF
  clear hL0 hL1 h h1 hT hTn k0 hB hV hF
  go_enter Tryd.func23, Tryd.ntmps23
  go_upto_region 1 with fail
  go_region
  go_wp2_with fail
  go_loopg [17] (L fr).length (fun g t wr => ∃ j : Nat, j ≤ (L fr).length ∧ g = (L fr).length - j ∧ t = .int .i64 j ∧ ∃ vq', Hid (LookF W M vr L vq W.heap.size (fr, fw) (St.byL M.N M.P M.K (fr, fw) ((L fr).take j) s) vq' wr))
  case atStart => exact ⟨0, Nat.zero_le _, rfl, rfl, vq, HL1.out⟩
  case round =>
    clear HL1
    obtain ⟨j, hj, rfl, rfl, vq', hat⟩ := hrel
    by_cases hlt : j < (L fr).length
    · obtain ⟨r, hr⟩ : ∃ r, (L fr)[j]? = some r := ⟨_, List.getElem?_eq_getElem hlt⟩
      obtain ⟨hR, hKeep⟩ := HB.out r (List.mem_of_getElem? hr)
      obtain ⟨e1, x1⟩ := St.byL_take (N := M.N) (P := M.P) (K := M.K) (f := (fr, fw)) (L fr) s hr
      have hfew := Few.down (x1.trans (St.viaL_ext (L (M.N + fr % M.K)) _)) HF.out
      have hlt0 := St.by1_ext (N := M.N) (P := M.P) (K := M.K) (f := (fr, fw)) (St.byL M.N M.P M.K (fr, fw) ((L fr).take j) s) r
      have hst1 := Nat.le_trans hlt0.steps hfew.steps
      have E1 := Lib.hid e1
      obtain ⟨g, k, rfl, c0, c1, c2, c3, c4, c5⟩ := hat.out.at_.rule (i := fr) (by omega) hv hr
      obtain ⟨⟨hh0, hh1⟩, hcase⟩ := right_iff hR
      have hk := keep_by hf1 hKeep
      obtain ⟨t, ht⟩ : ∃ t, St.byL M.N M.P M.K (fr, fw) ((L fr).take j) s = t := ⟨_, rfl⟩
      rw [ht] at hat hfew hst1 E1
      obtain ⟨hn, hhn⟩ : ∃ hn : Nat, r.head = hn := ⟨r.head.toNat, by omega⟩
      obtain ⟨kind, head, who, a, b, via⟩ := r
      simp only [] at hhn c0 c1 c2 c3 c4 c5 hh0 hh1 hcase hk
      subst hhn
      have hnN : hn < M.N := by unfold Mk.N; omega
      have hjI : (j : Int) < ((L fr).length : Int) := by omega
      have hwt : IntKind.i64.wrap ((t.steps : Int) + 1) = (t.steps : Int) + 1 := IntWalk.i64_in _ (by omega)
      clear e1 x1 hlt0 ht hR hKeep hr
      have hNe : M.N = M.P * M.K := rfl
      rw [← hNe] at hcase
      rcases hk with ⟨k2, ha⟩ | ⟨k3, ha⟩ | ⟨k4, ha⟩
      · subst k2
        have hby : t.by1 M.N M.P M.K (fr, fw) ⟨2, hn, who, a, b, via⟩ = t.tick.add M.N M.P hn fw := by unfold St.by1; rw [if_pos rfl]; rfl
        rw [hby] at hfew
        clear hcase ha
        have hbx : LookAt W M vr L vq W.heap.size (fr, fw) wr.heap.size ⟨2, hn, who, a, b, via⟩ t vq' (wr.alloc (.cells #[.int .i64 2, .int .i64 hn, .int .i64 who, .int .i64 a, .int .i64 b, .int .i64 via] 25)) := hat.out.box _
        obtain ⟨n0, n1, n2, n3⟩ := hbx.fact.at_.mcells
        obtain ⟨o0, o1, o2, o3⟩ := hbx.fact.at_.ocells
        have fo := hbx.fact.at_.free.2 3
        have htk := hbx.tick
        rw [show ((t.steps + 1 : Nat) : Int) = (t.steps : Int) + 1 from by omega] at htk
        clear hat hbx
        go_upto_region 5 with fail
        generalize (wr.alloc (.cells #[.int .i64 2, .int .i64 hn, .int .i64 who, .int .i64 a, .int .i64 b, .int .i64 via] 25)).setCell ⟨M.mo, 3, none⟩ (.int .i64 ((t.steps : Int) + 1)) = W2 at htk ⊢
        have HTK := Lib.hid htk
        obtain ⟨⟨q0, q1, q2⟩, ⟨q3, q4⟩, q5, q6, q7, q8, q9, q10⟩ := LookAt.rd HTK
        simp only [] at q3 q4 q5 q6 q7 q8 q9 q10
        clear htk n0 n1 n2 n3 o0 o1 o2 o3 fo c0 c1 c2 c3 c4 c5
        have HA := Lib.hid (LookAt.add HTK hn fw (by omega) (by omega) hfew)
        go_wp2_with fail
        refine HA.out.mono ?_
        rintro e W3 ⟨rfl, vq3, h3⟩
        clear HA
        have HN : Hid (LookF W M vr L vq W.heap.size (fr, fw) (St.byL M.N M.P M.K (fr, fw) ((L fr).take (j + 1)) s) vq3 W3) := by
          rw [E1.out, hby]
          exact h3.out.fact
        clear h3 HTK E1
        go_wp2_with fail
        go_roundg ((L fr).length - (j + 1))
        case measure => omega
        case rel => exact ⟨j + 1, by omega, rfl, by go_num, vq3, HN⟩
      · subst k3
        obtain ⟨vi, hvi⟩ : ∃ vi : Nat, via = vi := ⟨via.toNat, by omega⟩
        subst hvi
        have hviK : vi < M.K := by omega
        obtain ⟨X, hX⟩ : ∃ X, fw * M.K = X := ⟨_, rfl⟩
        have hXl : X + M.K ≤ M.N := by
          rw [← hX, ← Nat.succ_mul]
          exact Nat.mul_le_mul_right _ hf2
        have hby : t.by1 M.N M.P M.K (fr, fw) ⟨3, hn, who, a, b, vi⟩ = t.tick.all M.N M.P (X + vi) hn := by
          unfold St.by1
          rw [if_neg (show ¬ (3 : Int) = 2 by decide), if_pos (show (3 : Int) = 3 from rfl), ← hX]; rfl
        rw [hby] at hfew
        have hw1 : IntKind.i64.wrap ((fw : Int) * (M.K : Int)) = (X : Int) := by
          have : (fw : Int) * (M.K : Int) = (X : Int) := by rw [← hX]; simp
          rw [this]; exact IntWalk.i64_in _ (by omega)
        obtain ⟨Y, hY⟩ : ∃ Y, X + vi = Y := ⟨_, rfl⟩
        have hw2 : IntKind.i64.wrap ((X : Int) + (vi : Int)) = (Y : Int) := by
          have : (X : Int) + (vi : Int) = (Y : Int) := by rw [← hY]; simp
          rw [this]; exact IntWalk.i64_in _ (by omega)
        rw [hY] at hfew hby
        have hYN : Y < M.N := by omega
        clear hcase ha hX hY
        have hbx : LookAt W M vr L vq W.heap.size (fr, fw) wr.heap.size ⟨3, hn, who, a, b, vi⟩ t vq' (wr.alloc (.cells #[.int .i64 3, .int .i64 hn, .int .i64 who, .int .i64 a, .int .i64 b, .int .i64 vi] 25)) := hat.out.box _
        obtain ⟨n0, n1, n2, n3⟩ := hbx.fact.at_.mcells
        obtain ⟨o0, o1, o2, o3⟩ := hbx.fact.at_.ocells
        have fo := hbx.fact.at_.free.2 3
        have htk := hbx.tick
        rw [show ((t.steps + 1 : Nat) : Int) = (t.steps : Int) + 1 from by omega] at htk
        clear hat hbx
        go_upto_region 5 with fail
        generalize (wr.alloc (.cells #[.int .i64 3, .int .i64 hn, .int .i64 who, .int .i64 a, .int .i64 b, .int .i64 vi] 25)).setCell ⟨M.mo, 3, none⟩ (.int .i64 ((t.steps : Int) + 1)) = W2 at htk ⊢
        have HTK := Lib.hid htk
        obtain ⟨⟨q0, q1, q2⟩, ⟨q3, q4⟩, q5, q6, q7, q8, q9, q10⟩ := LookAt.rd HTK
        simp only [] at q3 q4 q5 q6 q7 q8 q9 q10
        clear htk n0 n1 n2 n3 o0 o1 o2 o3 fo c0 c1 c2 c3 c4 c5
        have HD : Hid (LookAt W M vr L vq W.heap.size (fr, fw) wr.heap.size ⟨3, hn, who, a, b, vi⟩ t.tick vq' W2.drew) := HTK.out.quiet ((Keeps.refl _ _).drew)
        have HA : Hid (∀ W', Hid (LookAt W M vr L vq W.heap.size (fr, fw) wr.heap.size ⟨3, hn, who, a, b, vi⟩ t.tick vq' W') → Calls Tryd.prog 31 #[.pointer (some ⟨M.mb, 0, none⟩), .int .i64 Y, .int .i64 hn] W' fun e W'' => e = .returned (.tuple #[]) ∧ ∃ vq3, Hid (LookAt W M vr L vq W.heap.size (fr, fw) wr.heap.size ⟨3, hn, who, a, b, vi⟩ (t.tick.all M.N M.P Y hn) vq3 W'')) := fun W' h => LookAt.all h Y hn hYN (by omega) hfew
        go_upto_region 9 with fail
        go_region_held3 (fun w' => (w'.cell? ⟨M.mb, 0, none⟩ = some (.pointer (some ⟨M.mo, 0, none⟩)) ∧ w'.cell? ⟨M.mo, 0, none⟩ = some (.pointer (some ⟨M.fb, 0, none⟩)) ∧ w'.cell? ⟨M.mo, 2, none⟩ = some (.int .i64 M.K)) ∧ (w'.cell? ⟨W.heap.size, 0, none⟩ = some (.int .i64 fr) ∧ w'.cell? ⟨W.heap.size, 1, none⟩ = some (.int .i64 fw)) ∧ w'.cell? ⟨wr.heap.size, 0, none⟩ = some (.int .i64 3) ∧ w'.cell? ⟨wr.heap.size, 1, none⟩ = some (.int .i64 hn) ∧ w'.cell? ⟨wr.heap.size, 2, none⟩ = some (.int .i64 who) ∧ w'.cell? ⟨wr.heap.size, 3, none⟩ = some (.int .i64 a) ∧ w'.cell? ⟨wr.heap.size, 4, none⟩ = some (.int .i64 b) ∧ w'.cell? ⟨wr.heap.size, 5, none⟩ = some (.int .i64 vi)) (exact LookAt.rd (by assumption)) (first | (go_at_call 31; refine (HA.out _ (by assumption)).mono ?_; rintro e W3 ⟨rfl, vq3, h3⟩))
        clear HA HD
        have HN : Hid (LookF W M vr L vq W.heap.size (fr, fw) (St.byL M.N M.P M.K (fr, fw) ((L fr).take (j + 1)) s) vq3 W3) := by
          rw [E1.out, hby]
          exact h3.out.fact
        clear h3 HTK E1
        go_wp2_with fail
        go_roundg ((L fr).length - (j + 1))
        case measure => omega
        case rel => exact ⟨j + 1, by omega, rfl, by go_num, vq3, HN⟩
      · subst k4
        have ha0 : 0 ≤ a := by omega
        have haN : a < M.N := by omega
        have hb0 : 0 ≤ b := by omega
        have hbN : b < M.N := by omega
        clear hcase ha
        rcases Bool.eq_false_or_eq_true (t.In a.toNat fw) with hav | hav
        · rcases Bool.eq_false_or_eq_true (t.In b.toNat fw) with hbv | hbv
          · have hby : t.by1 M.N M.P M.K (fr, fw) ⟨4, hn, who, a, b, via⟩ = t.tick.add M.N M.P hn fw := by
              unfold St.by1
              rw [if_neg (show ¬ (4 : Int) = 2 by decide), if_neg (show ¬ (4 : Int) = 3 by decide), if_pos (show (4 : Int) = 4 from rfl)]
              show (if t.In a.toNat fw && t.In b.toNat fw then t.tick.add M.N M.P hn fw else t.tick) = _
              rw [hav, hbv]; rfl
            rw [hby] at hfew
            have hbx : LookAt W M vr L vq W.heap.size (fr, fw) wr.heap.size ⟨4, hn, who, a, b, via⟩ t vq' (wr.alloc (.cells #[.int .i64 4, .int .i64 hn, .int .i64 who, .int .i64 a, .int .i64 b, .int .i64 via] 25)) := hat.out.box _
            obtain ⟨n0, n1, n2, n3⟩ := hbx.fact.at_.mcells
            obtain ⟨o0, o1, o2, o3⟩ := hbx.fact.at_.ocells
            have fo := hbx.fact.at_.free.2 3
            have htk := hbx.tick
            rw [show ((t.steps + 1 : Nat) : Int) = (t.steps : Int) + 1 from by omega] at htk
            clear hat hbx
            go_upto_region 5 with fail
            generalize (wr.alloc (.cells #[.int .i64 4, .int .i64 hn, .int .i64 who, .int .i64 a, .int .i64 b, .int .i64 via] 25)).setCell ⟨M.mo, 3, none⟩ (.int .i64 ((t.steps : Int) + 1)) = W2 at htk ⊢
            have HTK := Lib.hid htk
            obtain ⟨⟨q0, q1, q2⟩, ⟨q3, q4⟩, q5, q6, q7, q8, q9, q10⟩ := LookAt.rd HTK
            simp only [] at q3 q4 q5 q6 q7 q8 q9 q10
            clear htk n0 n1 n2 n3 o0 o1 o2 o3 fo c0 c1 c2 c3 c4 c5
            have HD : Hid (LookAt W M vr L vq W.heap.size (fr, fw) wr.heap.size ⟨4, hn, who, a, b, via⟩ t.tick vq' W2.drew) := HTK.out.quiet ((Keeps.refl _ _).drew)
            have HA : Hid (∀ W' (x : Int), Hid (LookAt W M vr L vq W.heap.size (fr, fw) wr.heap.size ⟨4, hn, who, a, b, via⟩ t.tick vq' W') → x = a → Calls Tryd.prog 25 #[.pointer (some ⟨M.fb, 0, none⟩), .int .i64 x, .int .i64 fw] W' fun e W'' => e = .returned (.bool true) ∧ Hid (LookAt W M vr L vq W.heap.size (fr, fw) wr.heap.size ⟨4, hn, who, a, b, via⟩ t.tick vq' W'')) := fun W' x h hx => by
              subst hx
              have := LookAt.has h x fw ha0 haN hf2
              rw [show t.tick.In = t.In from rfl, hav] at this
              exact this
            have HBB : Hid (∀ W' (x : Int), Hid (LookAt W M vr L vq W.heap.size (fr, fw) wr.heap.size ⟨4, hn, who, a, b, via⟩ t.tick vq' W') → x = b → Calls Tryd.prog 25 #[.pointer (some ⟨M.fb, 0, none⟩), .int .i64 x, .int .i64 fw] W' fun e W'' => e = .returned (.bool true) ∧ Hid (LookAt W M vr L vq W.heap.size (fr, fw) wr.heap.size ⟨4, hn, who, a, b, via⟩ t.tick vq' W'')) := fun W' x h hx => by
              subst hx
              have := LookAt.has h x fw hb0 hbN hf2
              rw [show t.tick.In = t.In from rfl, hbv] at this
              exact this
            go_upto_region 11 with fail
            go_cut [87] (fun tt wx => tt = .bool true ∧ Hid (LookAt W M vr L vq W.heap.size (fr, fw) wr.heap.size ⟨4, hn, who, a, b, via⟩ t.tick vq' wx))
            case first =>
              go_region_held3 (fun w' => (w'.cell? ⟨M.mb, 0, none⟩ = some (.pointer (some ⟨M.mo, 0, none⟩)) ∧ w'.cell? ⟨M.mo, 0, none⟩ = some (.pointer (some ⟨M.fb, 0, none⟩)) ∧ w'.cell? ⟨M.mo, 2, none⟩ = some (.int .i64 M.K)) ∧ (w'.cell? ⟨W.heap.size, 0, none⟩ = some (.int .i64 fr) ∧ w'.cell? ⟨W.heap.size, 1, none⟩ = some (.int .i64 fw)) ∧ w'.cell? ⟨wr.heap.size, 0, none⟩ = some (.int .i64 4) ∧ w'.cell? ⟨wr.heap.size, 1, none⟩ = some (.int .i64 hn) ∧ w'.cell? ⟨wr.heap.size, 2, none⟩ = some (.int .i64 who) ∧ w'.cell? ⟨wr.heap.size, 3, none⟩ = some (.int .i64 a) ∧ w'.cell? ⟨wr.heap.size, 4, none⟩ = some (.int .i64 b) ∧ w'.cell? ⟨wr.heap.size, 5, none⟩ = some (.int .i64 via)) (exact LookAt.rd (by assumption)) (first | (go_at_call 25; refine (HA.out _ _ (by assumption) (by exact rfl)).mono ?_; rintro e W3 ⟨rfl, h3⟩) | (go_at_call 25; refine (HBB.out _ _ (by assumption) (by exact rfl)).mono ?_; rintro e W3 ⟨rfl, h3⟩))
              all_goals (go_wp2_with fail; go_meet; refine ⟨rfl, ?_⟩; assumption)
            case rest =>
              obtain ⟨rfl, HC⟩ := hcut
              clear HA HD HTK HBB q0 q1 q2 q3 q4 q5 q6 q7 q8 q9 q10
              obtain ⟨⟨q0, q1, q2⟩, ⟨q3, q4⟩, q5, q6, q7, q8, q9, q10⟩ := LookAt.rd HC
              simp only [] at q3 q4 q5 q6 q7 q8 q9 q10
              have HAD := Lib.hid (LookAt.add HC hn fw (by omega) (by omega) hfew)
              go_wp2_with fail
              refine HAD.out.mono ?_
              rintro e W3 ⟨rfl, vq3, h3⟩
              clear HAD
              have HN : Hid (LookF W M vr L vq W.heap.size (fr, fw) (St.byL M.N M.P M.K (fr, fw) ((L fr).take (j + 1)) s) vq3 W3) := by
                rw [E1.out, hby]
                exact h3.out.fact
              clear h3 E1 HC
              go_wp2_with fail
              go_roundg ((L fr).length - (j + 1))
              case measure => omega
              case rel => exact ⟨j + 1, by omega, rfl, by go_num, vq3, HN⟩
          · have hby : t.by1 M.N M.P M.K (fr, fw) ⟨4, hn, who, a, b, via⟩ = t.tick := by
              unfold St.by1
              rw [if_neg (show ¬ (4 : Int) = 2 by decide), if_neg (show ¬ (4 : Int) = 3 by decide), if_pos (show (4 : Int) = 4 from rfl)]
              show (if t.In a.toNat fw && t.In b.toNat fw then t.tick.add M.N M.P hn fw else t.tick) = _
              rw [hav, hbv]; rfl
            rw [hby] at hfew
            have hbx : LookAt W M vr L vq W.heap.size (fr, fw) wr.heap.size ⟨4, hn, who, a, b, via⟩ t vq' (wr.alloc (.cells #[.int .i64 4, .int .i64 hn, .int .i64 who, .int .i64 a, .int .i64 b, .int .i64 via] 25)) := hat.out.box _
            obtain ⟨n0, n1, n2, n3⟩ := hbx.fact.at_.mcells
            obtain ⟨o0, o1, o2, o3⟩ := hbx.fact.at_.ocells
            have fo := hbx.fact.at_.free.2 3
            have htk := hbx.tick
            rw [show ((t.steps + 1 : Nat) : Int) = (t.steps : Int) + 1 from by omega] at htk
            clear hat hbx
            go_upto_region 5 with fail
            generalize (wr.alloc (.cells #[.int .i64 4, .int .i64 hn, .int .i64 who, .int .i64 a, .int .i64 b, .int .i64 via] 25)).setCell ⟨M.mo, 3, none⟩ (.int .i64 ((t.steps : Int) + 1)) = W2 at htk ⊢
            have HTK := Lib.hid htk
            obtain ⟨⟨q0, q1, q2⟩, ⟨q3, q4⟩, q5, q6, q7, q8, q9, q10⟩ := LookAt.rd HTK
            simp only [] at q3 q4 q5 q6 q7 q8 q9 q10
            clear htk n0 n1 n2 n3 o0 o1 o2 o3 fo c0 c1 c2 c3 c4 c5
            have HD : Hid (LookAt W M vr L vq W.heap.size (fr, fw) wr.heap.size ⟨4, hn, who, a, b, via⟩ t.tick vq' W2.drew) := HTK.out.quiet ((Keeps.refl _ _).drew)
            have HA : Hid (∀ W' (x : Int), Hid (LookAt W M vr L vq W.heap.size (fr, fw) wr.heap.size ⟨4, hn, who, a, b, via⟩ t.tick vq' W') → x = a → Calls Tryd.prog 25 #[.pointer (some ⟨M.fb, 0, none⟩), .int .i64 x, .int .i64 fw] W' fun e W'' => e = .returned (.bool true) ∧ Hid (LookAt W M vr L vq W.heap.size (fr, fw) wr.heap.size ⟨4, hn, who, a, b, via⟩ t.tick vq' W'')) := fun W' x h hx => by
              subst hx
              have := LookAt.has h x fw ha0 haN hf2
              rw [show t.tick.In = t.In from rfl, hav] at this
              exact this
            have HBB : Hid (∀ W' (x : Int), Hid (LookAt W M vr L vq W.heap.size (fr, fw) wr.heap.size ⟨4, hn, who, a, b, via⟩ t.tick vq' W') → x = b → Calls Tryd.prog 25 #[.pointer (some ⟨M.fb, 0, none⟩), .int .i64 x, .int .i64 fw] W' fun e W'' => e = .returned (.bool false) ∧ Hid (LookAt W M vr L vq W.heap.size (fr, fw) wr.heap.size ⟨4, hn, who, a, b, via⟩ t.tick vq' W'')) := fun W' x h hx => by
              subst hx
              have := LookAt.has h x fw hb0 hbN hf2
              rw [show t.tick.In = t.In from rfl, hbv] at this
              exact this
            go_upto_region 11 with fail
            go_cut [87] (fun tt wx => tt = .bool false ∧ Hid (LookAt W M vr L vq W.heap.size (fr, fw) wr.heap.size ⟨4, hn, who, a, b, via⟩ t.tick vq' wx))
            case first =>
              go_region_held3 (fun w' => (w'.cell? ⟨M.mb, 0, none⟩ = some (.pointer (some ⟨M.mo, 0, none⟩)) ∧ w'.cell? ⟨M.mo, 0, none⟩ = some (.pointer (some ⟨M.fb, 0, none⟩)) ∧ w'.cell? ⟨M.mo, 2, none⟩ = some (.int .i64 M.K)) ∧ (w'.cell? ⟨W.heap.size, 0, none⟩ = some (.int .i64 fr) ∧ w'.cell? ⟨W.heap.size, 1, none⟩ = some (.int .i64 fw)) ∧ w'.cell? ⟨wr.heap.size, 0, none⟩ = some (.int .i64 4) ∧ w'.cell? ⟨wr.heap.size, 1, none⟩ = some (.int .i64 hn) ∧ w'.cell? ⟨wr.heap.size, 2, none⟩ = some (.int .i64 who) ∧ w'.cell? ⟨wr.heap.size, 3, none⟩ = some (.int .i64 a) ∧ w'.cell? ⟨wr.heap.size, 4, none⟩ = some (.int .i64 b) ∧ w'.cell? ⟨wr.heap.size, 5, none⟩ = some (.int .i64 via)) (exact LookAt.rd (by assumption)) (first | (go_at_call 25; refine (HA.out _ _ (by assumption) (by exact rfl)).mono ?_; rintro e W3 ⟨rfl, h3⟩) | (go_at_call 25; refine (HBB.out _ _ (by assumption) (by exact rfl)).mono ?_; rintro e W3 ⟨rfl, h3⟩))
              all_goals (go_wp2_with fail; go_meet; refine ⟨rfl, ?_⟩; assumption)
            case rest =>
              obtain ⟨rfl, HC⟩ := hcut
              clear HA HD HTK HBB q0 q1 q2 q3 q4 q5 q6 q7 q8 q9 q10
              have HN : Hid (LookF W M vr L vq W.heap.size (fr, fw) (St.byL M.N M.P M.K (fr, fw) ((L fr).take (j + 1)) s) vq' wc) := by
                rw [E1.out, hby]
                exact HC.out.fact
              clear HC E1
              go_wp2_with fail
              go_roundg ((L fr).length - (j + 1))
              case measure => omega
              case rel => exact ⟨j + 1, by omega, rfl, by go_num, vq', HN⟩
        · have hby : t.by1 M.N M.P M.K (fr, fw) ⟨4, hn, who, a, b, via⟩ = t.tick := by
            unfold St.by1
            rw [if_neg (show ¬ (4 : Int) = 2 by decide), if_neg (show ¬ (4 : Int) = 3 by decide), if_pos (show (4 : Int) = 4 from rfl)]
            show (if t.In a.toNat fw && t.In b.toNat fw then t.tick.add M.N M.P hn fw else t.tick) = _
            rw [hav]; rfl
          rw [hby] at hfew
          have hbx : LookAt W M vr L vq W.heap.size (fr, fw) wr.heap.size ⟨4, hn, who, a, b, via⟩ t vq' (wr.alloc (.cells #[.int .i64 4, .int .i64 hn, .int .i64 who, .int .i64 a, .int .i64 b, .int .i64 via] 25)) := hat.out.box _
          obtain ⟨n0, n1, n2, n3⟩ := hbx.fact.at_.mcells
          obtain ⟨o0, o1, o2, o3⟩ := hbx.fact.at_.ocells
          have fo := hbx.fact.at_.free.2 3
          have htk := hbx.tick
          rw [show ((t.steps + 1 : Nat) : Int) = (t.steps : Int) + 1 from by omega] at htk
          clear hat hbx
          go_upto_region 5 with fail
          generalize (wr.alloc (.cells #[.int .i64 4, .int .i64 hn, .int .i64 who, .int .i64 a, .int .i64 b, .int .i64 via] 25)).setCell ⟨M.mo, 3, none⟩ (.int .i64 ((t.steps : Int) + 1)) = W2 at htk ⊢
          have HTK := Lib.hid htk
          obtain ⟨⟨q0, q1, q2⟩, ⟨q3, q4⟩, q5, q6, q7, q8, q9, q10⟩ := LookAt.rd HTK
          simp only [] at q3 q4 q5 q6 q7 q8 q9 q10
          clear htk n0 n1 n2 n3 o0 o1 o2 o3 fo c0 c1 c2 c3 c4 c5
          have HQ : Hid (∀ n, Calls Tryd.prog 25 #[.pointer (some ⟨M.fb, 0, none⟩), .int .i64 a, .int .i64 fw] (W2.drewN n) fun e w' => e = .returned (.bool false) ∧ w' = W2.drewN n) := fun n => by
            have hk := HTK.out.fact.at_.keeps (Keeps.drewN (Keeps.refl (fun _ => False) W2) n)
            have hcal := fhas_spec hk.fam a fw (by omega) (by omega)
            have hv : hasB M.N M.P t.tick.In a fw = false := by
              unfold hasB rowP
              rw [if_pos ⟨ha0, haN⟩, Int.toNat_natCast, show t.tick.In = t.In from rfl, hav, Bool.and_false]
            rw [hv] at hcal
            exact hcal.mono fun e w' x => ⟨x.1, x.2.symm⟩
          go_upto_region 11 with fail
          go_cut [87] (fun tt wx => tt = .bool false ∧ Hid (LookAt W M vr L vq W.heap.size (fr, fw) wr.heap.size ⟨4, hn, who, a, b, via⟩ t.tick vq' wx))
          case first =>
            go_quiet (first | (go_at_call 25; refine Calls.quiet_of_same (HQ.out _)))
            go_wp2_with fail
            go_meet
            exact ⟨rfl, HTK.out.quiet (Keeps.drewN (Keeps.refl _ _) _)⟩
          case rest =>
            obtain ⟨rfl, HC⟩ := hcut
            clear HQ HTK q0 q1 q2 q3 q4 q5 q6 q7 q8 q9 q10
            have HN : Hid (LookF W M vr L vq W.heap.size (fr, fw) (St.byL M.N M.P M.K (fr, fw) ((L fr).take (j + 1)) s) vq' wc) := by
              rw [E1.out, hby]
              exact HC.out.fact
            clear HC E1
            go_wp2_with fail
            go_roundg ((L fr).length - (j + 1))
            case measure => omega
            case rel => exact ⟨j + 1, by omega, rfl, by go_num, vq', HN⟩
    · obtain rfl : j = (L fr).length := by omega
      rw [List.take_length] at hat
      obtain ⟨v, hv0⟩ : ∃ v, fr % M.K = v := ⟨_, rfl⟩
      obtain ⟨d, hd⟩ : ∃ d, fr / M.K = d := ⟨_, rfl⟩
      have hdP : d < M.P := by
        rw [← hd]; exact (Nat.div_lt_iff_lt_mul hK).2 hf1
      rw [hv0] at hvm hv2 hle2
      have HV' := HV.out
      rw [hv0] at HV'
      have HF' := HF.out
      unfold St.look at HF'
      simp only [] at HF'
      have HEND : s.look M.N M.P M.K L (fr, fw) = St.viaL M.N M.P M.K (fr, fw) (L (M.N + v)) (St.byL M.N M.P M.K (fr, fw) (L fr) s) := by unfold St.look; simp only []; rw [hv0]
      rw [hv0] at HF'
      have hlen2 : (L (M.N + v)).length ≤ cap2 := hle2
      have htm : Int.tmod (fr : Int) (M.K : Int) = (v : Int) := by
        rw [Int.tmod_eq_emod_of_nonneg (by omega), ← hv0]; simp
      have htq : Int.tdiv (fr : Int) (M.K : Int) = (d : Int) := by
        rw [Int.tdiv_eq_ediv_of_nonneg (by omega), ← hd]; simp
      have hqw : IntKind.i64.wrap (d : Int) = (d : Int) := IntWalk.i64_in _ (by omega)
      have hK0 : (M.K : Int) ≠ 0 := by omega
      have hqq : IntKind.i64.wrap (Int.tdiv (fr : Int) (M.K : Int)) = (d : Int) := by rw [htq]; exact hqw
      have hK1 : ((M.K : Int) == 0) = false := by simpa using hK0
      have hK2 : ¬ M.K = 0 := by omega
      have hvI0 : (0 : Int) ≤ (v : Int) := by omega
      have hvI : (v : Int) < (M.K : Int) := by omega
      have bc2 := hat.out.at_.viaCell hvm
      rw [hv2] at bc2
      obtain ⟨n0, n1, n2, n3⟩ := hat.out.at_.mcells
      obtain ⟨o0, o1, o2, o3⟩ := hat.out.at_.ocells
      have hf0 : wr.cell? ⟨W.heap.size, 0, none⟩ = some (.int .i64 fr) := hat.out.f0
      have HL2 : Hid (∀ n, LookF W M vr L vq W.heap.size (fr, fw) (St.byL M.N M.P M.K (fr, fw) (L fr) s) vq' (wr.drewN n)) := fun n => hat.out.quiet (Keeps.drewN (Keeps.refl _ _) n)
      have HVV := Lib.hid HV'
      have HFF := Lib.hid HF'
      clear hat HV' HF' HB HV HF
      go_upto_region 14 with fail
      go_quiet (fail)
      clear n0 n1 n2 n3 o0 o1 o2 o3 hf0 bc2
      go_wp2_with fail
      go_loopg [112] (L (M.N + v)).length (fun g t wz => ∃ j2 : Nat, j2 ≤ (L (M.N + v)).length ∧ g = (L (M.N + v)).length - j2 ∧ t = .int .i64 j2 ∧ ∃ vq2, Hid (LookF W M vr L vq W.heap.size (fr, fw) (St.viaL M.N M.P M.K (fr, fw) ((L (M.N + v)).take j2) (St.byL M.N M.P M.K (fr, fw) (L fr) s)) vq2 wz))
      case atStart => exact ⟨0, Nat.zero_le _, rfl, rfl, vq', HL2.out _⟩
      case round =>
        clear HL2
        obtain ⟨j2, hj2, rfl, rfl, vq2, hat⟩ := hrel
        by_cases hlt2 : j2 < (L (M.N + v)).length
        · obtain ⟨r, hr⟩ : ∃ r, (L (M.N + v))[j2]? = some r := ⟨_, List.getElem?_eq_getElem hlt2⟩
          obtain ⟨hR, hKeep⟩ := HVV.out r (List.mem_of_getElem? hr)
          obtain ⟨e1, x1⟩ := St.viaL_take (N := M.N) (P := M.P) (K := M.K) (f := (fr, fw)) (L (M.N + v)) (St.byL M.N M.P M.K (fr, fw) (L fr) s) hr
          have hfew := Few.down x1 HFF.out
          have hlt0 := St.via1_ext (N := M.N) (P := M.P) (K := M.K) (f := (fr, fw)) (St.viaL M.N M.P M.K (fr, fw) ((L (M.N + v)).take j2) (St.byL M.N M.P M.K (fr, fw) (L fr) s)) r
          have hst1 := Nat.le_trans hlt0.steps hfew.steps
          have E1 := Lib.hid e1
          obtain ⟨g, k, rfl, c0, c1, c2, c3, c4, c5⟩ := hat.out.at_.rule (i := M.N + v) (by omega) hv2 hr
          obtain ⟨⟨hh0, hh1⟩, hcase⟩ := right_iff hR
          have hk := keep_via hKeep
          obtain ⟨t, ht⟩ : ∃ t, St.viaL M.N M.P M.K (fr, fw) ((L (M.N + v)).take j2) (St.byL M.N M.P M.K (fr, fw) (L fr) s) = t := ⟨_, rfl⟩
          rw [ht] at hat hfew hst1 E1
          obtain ⟨hn, hhn⟩ : ∃ hn : Nat, r.head = hn := ⟨r.head.toNat, by omega⟩
          obtain ⟨kind, head, who, a, b, via⟩ := r
          simp only [] at hhn c0 c1 c2 c3 c4 c5 hh0 hh1 hcase hk
          subst hhn
          obtain ⟨k3, hvv⟩ := hk
          subst k3
          have hnN : hn < M.N := by unfold Mk.N; omega
          have hjI : (j2 : Int) < ((L (M.N + v)).length : Int) := by omega
          have hwt : IntKind.i64.wrap ((t.steps : Int) + 1) = (t.steps : Int) + 1 := IntWalk.i64_in _ (by omega)
          have hNe : M.N = M.P * M.K := rfl
          rw [← hNe] at hcase
          have ha0 : 0 ≤ a := by omega
          have haN : a < M.N := by omega
          clear e1 x1 hlt0 ht hR hKeep hr hcase hvv
          have hbx : LookAt W M vr L vq W.heap.size (fr, fw) wr.heap.size ⟨3, hn, who, a, b, via⟩ t vq2 (wr.alloc (.cells #[.int .i64 3, .int .i64 hn, .int .i64 who, .int .i64 a, .int .i64 b, .int .i64 via] 25)) := hat.out.box _
          obtain ⟨n0, n1, n2, n3⟩ := hbx.fact.at_.mcells
          obtain ⟨o0, o1, o2, o3⟩ := hbx.fact.at_.ocells
          have fo := hbx.fact.at_.free.2 3
          have htk := hbx.tick
          rw [show ((t.steps + 1 : Nat) : Int) = (t.steps : Int) + 1 from by omega] at htk
          clear hat hbx
          go_upto_region 18 with fail
          generalize (wr.alloc (.cells #[.int .i64 3, .int .i64 hn, .int .i64 who, .int .i64 a, .int .i64 b, .int .i64 via] 25)).setCell ⟨M.mo, 3, none⟩ (.int .i64 ((t.steps : Int) + 1)) = W2 at htk ⊢
          have HTK := Lib.hid htk
          have HD : Hid (LookAt W M vr L vq W.heap.size (fr, fw) wr.heap.size ⟨3, hn, who, a, b, via⟩ t.tick vq2 W2.drew) := HTK.out.quiet ((Keeps.refl _ _).drew)
          obtain ⟨⟨q0, q1, q2⟩, ⟨q3, q4⟩, q5, q6, q7, q8, q9, q10⟩ := LookAt.rd HTK
          simp only [] at q3 q4 q5 q6 q7 q8 q9 q10
          clear htk n0 n1 n2 n3 o0 o1 o2 o3 fo c0 c1 c2 c3 c4 c5
          rcases Bool.eq_false_or_eq_true (t.In a.toNat d) with hav | hav
          · have hby : t.via1 M.N M.P M.K (fr, fw) ⟨3, hn, who, a, b, via⟩ = t.tick.add M.N M.P hn fw := by
              unfold St.via1
              show (if t.In a.toNat (fr / M.K) then t.tick.add M.N M.P hn fw else t.tick) = _
              rw [hd, hav]; rfl
            rw [hby] at hfew
            have HA : Hid (∀ W', Hid (LookAt W M vr L vq W.heap.size (fr, fw) wr.heap.size ⟨3, hn, who, a, b, via⟩ t.tick vq2 W') → Calls Tryd.prog 25 #[.pointer (some ⟨M.fb, 0, none⟩), .int .i64 a, .int .i64 d] W' fun e W'' => e = .returned (.bool true) ∧ Hid (LookAt W M vr L vq W.heap.size (fr, fw) wr.heap.size ⟨3, hn, who, a, b, via⟩ t.tick vq2 W'')) := fun W' h => by
              have := LookAt.has h a d ha0 haN hdP
              rw [show t.tick.In = t.In from rfl, hav] at this
              exact this
            go_cut [145] (fun tt wx => tt = .bool true ∧ Hid (LookAt W M vr L vq W.heap.size (fr, fw) wr.heap.size ⟨3, hn, who, a, b, via⟩ t.tick vq2 wx))
            case first =>
              go_region_held3 (fun w' => (w'.cell? ⟨M.mb, 0, none⟩ = some (.pointer (some ⟨M.mo, 0, none⟩)) ∧ w'.cell? ⟨M.mo, 0, none⟩ = some (.pointer (some ⟨M.fb, 0, none⟩)) ∧ w'.cell? ⟨M.mo, 2, none⟩ = some (.int .i64 M.K)) ∧ (w'.cell? ⟨W.heap.size, 0, none⟩ = some (.int .i64 fr) ∧ w'.cell? ⟨W.heap.size, 1, none⟩ = some (.int .i64 fw)) ∧ w'.cell? ⟨wr.heap.size, 0, none⟩ = some (.int .i64 3) ∧ w'.cell? ⟨wr.heap.size, 1, none⟩ = some (.int .i64 hn) ∧ w'.cell? ⟨wr.heap.size, 2, none⟩ = some (.int .i64 who) ∧ w'.cell? ⟨wr.heap.size, 3, none⟩ = some (.int .i64 a) ∧ w'.cell? ⟨wr.heap.size, 4, none⟩ = some (.int .i64 b) ∧ w'.cell? ⟨wr.heap.size, 5, none⟩ = some (.int .i64 via)) (exact LookAt.rd (by assumption)) (first | (go_at_call 25; refine (HA.out _ (by assumption)).mono ?_; rintro e W3 ⟨rfl, h3⟩))
              all_goals (go_wp2_with fail; go_meet; refine ⟨rfl, ?_⟩; assumption)
            case rest =>
              obtain ⟨rfl, HC⟩ := hcut
              clear HA HD HTK q0 q1 q2 q3 q4 q5 q6 q7 q8 q9 q10
              obtain ⟨⟨q0, q1, q2⟩, ⟨q3, q4⟩, q5, q6, q7, q8, q9, q10⟩ := LookAt.rd HC
              simp only [] at q3 q4 q5 q6 q7 q8 q9 q10
              have HAD := Lib.hid (LookAt.add HC hn fw (by omega) (by omega) hfew)
              go_wp2_with fail
              refine HAD.out.mono ?_
              rintro e W3 ⟨rfl, vq3, h3⟩
              clear HAD HC
              have HN : Hid (LookF W M vr L vq W.heap.size (fr, fw) (St.viaL M.N M.P M.K (fr, fw) ((L (M.N + v)).take (j2 + 1)) (St.byL M.N M.P M.K (fr, fw) (L fr) s)) vq3 W3) := by
                rw [E1.out, hby]
                exact h3.out.fact
              clear h3 E1
              go_wp2_with fail
              go_roundg ((L (M.N + v)).length - (j2 + 1))
              case measure => omega
              case rel => exact ⟨j2 + 1, by omega, rfl, by go_num, vq3, HN⟩
          · have hby : t.via1 M.N M.P M.K (fr, fw) ⟨3, hn, who, a, b, via⟩ = t.tick := by
              unfold St.via1
              show (if t.In a.toNat (fr / M.K) then t.tick.add M.N M.P hn fw else t.tick) = _
              rw [hd, hav]; rfl
            rw [hby] at hfew
            have HA : Hid (∀ W', Hid (LookAt W M vr L vq W.heap.size (fr, fw) wr.heap.size ⟨3, hn, who, a, b, via⟩ t.tick vq2 W') → Calls Tryd.prog 25 #[.pointer (some ⟨M.fb, 0, none⟩), .int .i64 a, .int .i64 d] W' fun e W'' => e = .returned (.bool false) ∧ Hid (LookAt W M vr L vq W.heap.size (fr, fw) wr.heap.size ⟨3, hn, who, a, b, via⟩ t.tick vq2 W'')) := fun W' h => by
              have := LookAt.has h a d ha0 haN hdP
              rw [show t.tick.In = t.In from rfl, hav] at this
              exact this
            go_cut [145] (fun tt wx => tt = .bool false ∧ Hid (LookAt W M vr L vq W.heap.size (fr, fw) wr.heap.size ⟨3, hn, who, a, b, via⟩ t.tick vq2 wx))
            case first =>
              go_region_held3 (fun w' => (w'.cell? ⟨M.mb, 0, none⟩ = some (.pointer (some ⟨M.mo, 0, none⟩)) ∧ w'.cell? ⟨M.mo, 0, none⟩ = some (.pointer (some ⟨M.fb, 0, none⟩)) ∧ w'.cell? ⟨M.mo, 2, none⟩ = some (.int .i64 M.K)) ∧ (w'.cell? ⟨W.heap.size, 0, none⟩ = some (.int .i64 fr) ∧ w'.cell? ⟨W.heap.size, 1, none⟩ = some (.int .i64 fw)) ∧ w'.cell? ⟨wr.heap.size, 0, none⟩ = some (.int .i64 3) ∧ w'.cell? ⟨wr.heap.size, 1, none⟩ = some (.int .i64 hn) ∧ w'.cell? ⟨wr.heap.size, 2, none⟩ = some (.int .i64 who) ∧ w'.cell? ⟨wr.heap.size, 3, none⟩ = some (.int .i64 a) ∧ w'.cell? ⟨wr.heap.size, 4, none⟩ = some (.int .i64 b) ∧ w'.cell? ⟨wr.heap.size, 5, none⟩ = some (.int .i64 via)) (exact LookAt.rd (by assumption)) (first | (go_at_call 25; refine (HA.out _ (by assumption)).mono ?_; rintro e W3 ⟨rfl, h3⟩))
              all_goals (go_wp2_with fail; go_meet; refine ⟨rfl, ?_⟩; assumption)
            case rest =>
              obtain ⟨rfl, HC⟩ := hcut
              clear HA HD HTK q0 q1 q2 q3 q4 q5 q6 q7 q8 q9 q10
              have HN : Hid (LookF W M vr L vq W.heap.size (fr, fw) (St.viaL M.N M.P M.K (fr, fw) ((L (M.N + v)).take (j2 + 1)) (St.byL M.N M.P M.K (fr, fw) (L fr) s)) vq2 wc) := by
                rw [E1.out, hby]
                exact HC.out.fact
              clear HC E1
              go_wp2_with fail
              go_roundg ((L (M.N + v)).length - (j2 + 1))
              case measure => omega
              case rel => exact ⟨j2 + 1, by omega, rfl, by go_num, vq2, HN⟩
        · obtain rfl : j2 = (L (M.N + v)).length := by omega
          have hat2 := hat.out.at_
          rw [List.take_length] at hat2
          have hpost : AddPostS M vr L vq (s.look M.N M.P M.K L (fr, fw)) W (.returned (.tuple #[])) wr := ⟨rfl, vq2, by rw [HEND]; exact hat2, hat.out.step⟩
          have HP := Lib.hid hpost
          clear hpost hat hat2
          go_wp2
          go_end0
          exact HP.out
end
end Go.Proofs.YtckjgefpelnkoaaDoor
