/-
  The walk of the law LiveLeast.
-/
import Derived.Test.YtaabmkebbnkonaaDoorLiveOps
import Derived.Deep.CutBlock
import Derived.Deep.DeepCutAuto
set_option linter.unusedVariables false
set_option linter.unusedSimpArgs false
set_option linter.unnecessarySimpa false
namespace Go.Proofs.YtaabmkebbnkonaaDoor
open Go.ChangeShapes Go.WideShapes Go.ChangeAt Go.RowKit Go.Deep SetPlain
set_option maxRecDepth 100000
set_option maxHeartbeats 6400000
theorem liveLeast_small (w : World) (d0 d1 : Int) (ao : Option Addr) (n cap : Nat) (h : 8 < d0 ∨ 5 < d1) (hT : TabIn w) :
    Calls Tryd.prog 3 #[.agg #[.int .i64 d0, .int .i64 d1], .slice ao n cap] w fun e w' => e = .returned (.bool true) ∧ Below w.heap.size w w' := by
  obtain ⟨W0, hW0⟩ : ∃ W0, (w.alloc (.cells #[.int .i64 d0, .int .i64 d1] 22)) = W0 := ⟨_, rfl⟩
  have hal := (MapKept.heap_alloc w (.cells #[.int .i64 d0, .int .i64 d1] 22)).1
  have hk0 : Keeps (fun _ => False) w (w.alloc (.cells #[.int .i64 d0, .int .i64 d1] 22)) := (Keeps.refl _ _).alloc _
  rw [hW0] at hal hk0
  have c0 : W0.cell? ⟨w.heap.size, 0, none⟩ = some (.int .i64 d0) := by rw [cell_of_heap hal]; rfl
  have c1 : W0.cell? ⟨w.heap.size, 1, none⟩ = some (.int .i64 d1) := by rw [cell_of_heap hal]; rfl
  have HL := Lib.hid (lives43_any W0 (hT.keeps hk0 (fun x => x)))
  have HK0 := Lib.hid hk0
  clear hT hk0 hal
  have hg : 8 < d0 ∨ (¬ 8 < d0 ∧ 5 < d1) := by omega
  clear h
  rcases hg with h0 | ⟨h0, h1⟩
  all_goals
    go_enter Tryd.func3, Tryd.ntmps3
    go_upto_region 1 with fail
    (try simp only [hW0])
    clear hW0
    go_wp2_with (go_at_call 6; refine HL.out.mono ?_; rintro e w2 ⟨rfl, hb⟩)
    have HP := Lib.hid ((HK0.out.trans hb.out).below (Nat.le_refl _) (fun _ _ x => x))
    clear HL hb HK0
    go_ret
    exact ⟨rfl, HP.out⟩
theorem liveLeast_any (w : World) (d0 d1 : Int) (ao : Option Addr) (n cap : Nat) (h0 : ¬ 8 < d0) (h1 : ¬ 5 < d1) (os : List LOp) (hos : os.length = n) (hkd : ∀ x ∈ os, x.kind < 18446744073709551616) (hO : LOpRow w ao os) (hT : TabIn w) :
    Calls Tryd.prog 3 #[.agg #[.int .i64 d0, .int .i64 d1], .slice ao n cap] w fun e w' => e = .returned (.bool true) ∧ Below w.heap.size w w' := by
  obtain ⟨W0, hW0⟩ : ∃ W0, (w.alloc (.cells #[.int .i64 d0, .int .i64 d1] 22)) = W0 := ⟨_, rfl⟩
  have hal := (MapKept.heap_alloc w (.cells #[.int .i64 d0, .int .i64 d1] 22)).1
  have hk0 : Keeps (fun _ => False) w (w.alloc (.cells #[.int .i64 d0, .int .i64 d1] 22)) := (Keeps.refl _ _).alloc _
  rw [hW0] at hal hk0
  have c0 : W0.cell? ⟨w.heap.size, 0, none⟩ = some (.int .i64 d0) := by rw [cell_of_heap hal]; rfl
  have c1 : W0.cell? ⟨w.heap.size, 1, none⟩ = some (.int .i64 d1) := by rw [cell_of_heap hal]; rfl
  obtain ⟨P, hP⟩ := within_cases d0 64
  obtain ⟨K, hK⟩ := within_cases d1 64
  have hPl : P ≤ 8 := by unfold Within at hP; omega
  have hKl : K ≤ 5 := by unfold Within at hK; omega
  have HNEW := Lib.hid (lnew_spec (z := W0.heap.size) hP hK W0 (Nat.le_refl _))
  have HBX : Hid (∀ W, Keeps (fun _ => False) W0 W → W.cell? ⟨w.heap.size, 0, none⟩ = some (.int .i64 d0) ∧ W.cell? ⟨w.heap.size, 1, none⟩ = some (.int .i64 d1)) := fun W hk => by
    have e := (hk.block _ (lt_of_heap hal) (fun x => x)).trans hal
    refine ⟨?_, ?_⟩ <;> (rw [cell_of_heap e]; rfl)
  have HT0 : Hid (TabIn W0) := hT.keeps hk0 (fun x => x)
  have HOS : Hid (∀ W, Keeps (fun _ => False) W0 W → LOpRow W ao os) := fun W hk => hO.keeps (hk0.trans hk)
  have HB : Hid (∀ W, Keeps (fun _ => False) W0 W → Below w.heap.size w W) := fun W hk => (hk0.trans hk).below (Nat.le_refl _) (fun _ _ x => x)
  have HOL := Lib.hid hos
  have HKD := Lib.hid hkd
  have HPW := Lib.hid (And.intro hP hK)
  clear hT hk0 hal hO hos hkd hP hK
  go_enter Tryd.func3, Tryd.ntmps3
  go_upto_region 1 with fail
  (try simp only [hW0])
  clear hW0
  go_upto_region 4 with (go_at_call 7; refine HNEW.out.mono ?_; rintro e w1 ⟨lb, Fp0, rfl, hn⟩)
  have HS0 : Hid (LvS W0 w1 lb P K [] Fp0) := ⟨hn.out.1, hn.out.2.1, hn.out.2.2⟩
  clear HNEW hn c0 c1
  go_upto_block 0 with fail
  go_cut [] (fun wx => ∃ (rs : List Rl) (Fp : Nat → Prop), Hid (LvS W0 wx lb P K rs Fp ∧ rs.length ≤ 20))
  case first =>
    clear HPW HBX HB
    go_wp2_with fail
    go_loopg [33] n (fun g t wy => ∃ (j : Nat) (rs : List Rl) (Fp : Nat → Prop), j ≤ n ∧ j ≤ 20 ∧ g = n - j ∧ t = .int .i64 j ∧ Hid (LvS W0 wy lb P K rs Fp ∧ rs.length ≤ j))
    case atStart => exact ⟨0, [], Fp0, Nat.zero_le _, Nat.zero_le _, rfl, rfl, HS0.out, Nat.le_refl _⟩
    case round =>
      clear HS0
      obtain ⟨j, rs, Fp, hj, hj20, rfl, rfl, HS⟩ := hrel
      by_cases hlt : j < n
      · have hjI : (j : Int) < (n : Int) := by omega
        have hwj : IntKind.i64.wrap ((j : Int) + 1) = (j : Int) + 1 := IntWalk.i64_in _ (by omega)
        obtain ⟨x, hx⟩ : ∃ x, os[j]? = some x := ⟨_, List.getElem?_eq_getElem (by rw [HOL.out]; exact hlt)⟩
        obtain ⟨gg, oo, rfl, hgg, hcc⟩ := HOS.out wr HS.out.1.kp (by rw [HOL.out]; omega)
        obtain ⟨q0, q1, q2, q3, q4, q5, q6⟩ := hcc j x hx
        have hkx := HKD.out x (List.mem_of_getElem? hx)
        obtain ⟨kd, rl⟩ := x
        obtain ⟨kind, head, who, a, b, via⟩ := rl
        simp only [] at q0 q1 q2 q3 q4 q5 q6 hkx
        by_cases h20 : j = 20
        · have h20' : ((j : Int) == 20) = true := by rw [h20]; rfl
          clear h20
          clear hcc hx
          have HE : Hid (LvS W0 (wr.alloc (.cells #[.int .u64 kd, .int .i64 kind, .int .i64 head, .int .i64 who, .int .i64 a, .int .i64 b, .int .i64 via] 31)) lb P K rs Fp ∧ rs.length ≤ 20) := ⟨HS.out.1.quiet ((Keeps.refl _ _).alloc _), Nat.le_trans HS.out.2 hj20⟩
          clear HS
          go_wp2_with fail
          go_meet
          case rel => exact ⟨rs, Fp, HE⟩
        · have h20' : ((j : Int) == 20) = false := beq_eq_false_iff_ne.2 (by omega)
          have HS1 := Lib.hid (HS.out.1.quiet ((Keeps.refl _ wr).alloc (.cells #[.int .u64 kd, .int .i64 kind, .int .i64 head, .int .i64 who, .int .i64 a, .int .i64 b, .int .i64 via] 31)))
          have hal := (MapKept.heap_alloc wr (.cells #[.int .u64 kd, .int .i64 kind, .int .i64 head, .int .i64 who, .int .i64 a, .int .i64 b, .int .i64 via] 31)).1
          have hl20 : rs.length ≤ 20 := by have := HS.out.2; omega
          have HLR : Hid (rs.length ≤ j) := HS.out.2
          have hl900 : rs.length ≤ 900 := by omega
          rcases Nat.mod_two_eq_zero_or_one kd with he | he
          · have hm : ((kd : Int)).tmod 2 = 0 := by rw [Int.tmod_eq_emod_of_nonneg (by omega)]; omega
            have HA := Lib.hid (HS1.out.add HT0.out hl900 ⟨kind, head, who, a, b, via⟩)
            clear hcc hx hal HS hl20 hl900 he
            go_wp2_with (go_at_call 8; refine HA.out.mono ?_; rintro e w' ⟨u, code, rs', ans, Fp', rfl, hp⟩)
            have HN : Hid (LvS W0 w' lb P K rs' Fp' ∧ rs'.length ≤ j + 1) := ⟨hp.out.1, by have := hp.out.2.2.2.2.len; have := HLR.out; omega⟩
            clear HA hp HS1 HLR
            go_wp2_with fail
            go_roundg (n - (j + 1))
            case measure => omega
            case rel => exact ⟨j + 1, rs', Fp', by omega, by omega, rfl, by go_num, HN⟩
          · have hm : ((kd : Int)).tmod 2 = 1 := by rw [Int.tmod_eq_emod_of_nonneg (by omega)]; omega
            have HA := Lib.hid (HS1.out.drop HT0.out hl900 ⟨kind, head, who, a, b, via⟩)
            clear hcc hx hal HS hl20 hl900 he
            go_wp2_with (go_at_call 9; refine HA.out.mono ?_; rintro e w' ⟨u, code, rs', ans, Fp', rfl, hp⟩)
            have HN : Hid (LvS W0 w' lb P K rs' Fp' ∧ rs'.length ≤ j + 1) := ⟨hp.out.1, by have := hp.out.2.2.2.2.len; have := HLR.out; omega⟩
            clear HA hp HS1 HLR
            go_wp2_with fail
            go_roundg (n - (j + 1))
            case measure => omega
            case rel => exact ⟨j + 1, rs', Fp', by omega, by omega, rfl, by go_num, HN⟩
      · have hjI : ¬ (j : Int) < (n : Int) := by omega
        have HE : Hid (LvS W0 wr lb P K rs Fp ∧ rs.length ≤ 20) := ⟨HS.out.1, Nat.le_trans HS.out.2 hj20⟩
        clear HS
        go_wp2_with fail
        go_meet
        case rel => exact ⟨rs, Fp, HE⟩
  case rest =>
    obtain ⟨rs, Fp, HS⟩ := hcut
    clear HS0 HOS HKD HOL
    obtain ⟨b0, b1⟩ := HBX.out wc HS.out.1.kp
    obtain ⟨rn, hrn⟩ : ∃ rn, rs.length = rn := ⟨_, rfl⟩
    have hrn20 : rn ≤ 20 := by rw [← hrn]; exact HS.out.2
    have HRN := Lib.hid hrn
    have H12 : (fun w' : World => w'.cell? ⟨w.heap.size, 0, none⟩ = some (.int .i64 d0) ∧ w'.cell? ⟨w.heap.size, 1, none⟩ = some (.int .i64 d1)) wc.drew := HBX.out _ (HS.out.1.kp.trans ((Keeps.refl _ _).drew))
    have HSD := Lib.hid (HS.out.1.quiet ((Keeps.refl _ wc).drew))
    have HRU := Lib.hid (lrules_spec HSD.out.is)
    have hP0 : d0 ≤ 64 := by omega
    have hK0 : d1 ≤ 64 := by omega
    clear hrn HS
    go_upto_region 12 with fail
    clear b0 b1
    refine wp_region_noPanic ?_
    refine wp_region_held_drew (S := (fun w' : World => w'.cell? ⟨w.heap.size, 0, none⟩ = some (.int .i64 d0) ∧ w'.cell? ⟨w.heap.size, 1, none⟩ = some (.int .i64 d1))) (by kernel_rfl) H12 (fun hHeld => ?_)
    refine wpAnyH_take_at (i := 0) (v := ?v0) rfl (by kernel_rfl) (by kernel_rfl) (by kernel_rfl) (fun _ _ _ h => h) (Or.inl ⟨by rfl, ?y0⟩) hHeld ?r0
    case y0 => (intro w hSw; (try dsimp only at hSw); go_simp; first | done | with_reducible rfl)
    (try simp only [Act.put, List.setIfInBounds_toArray, List.set_cons_zero, List.set_cons_succ])
    refine wpAnyH_take_at (i := 1) (v := ?v1) rfl (by kernel_rfl) (by kernel_rfl) (by kernel_rfl) (fun _ _ _ h => h) (Or.inl ⟨by rfl, ?y1⟩) hHeld ?r1
    case y1 => (intro w hSw; (try dsimp only at hSw); go_simp; first | done | with_reducible rfl)
    (try simp only [Act.put, List.setIfInBounds_toArray, List.set_cons_zero, List.set_cons_succ])
    refine wpAnyH_take_at (i := 2) (v := ?v2) rfl (by kernel_rfl) (by kernel_rfl) (by kernel_rfl) (fun _ _ _ h => h) (Or.inl ⟨by rfl, ?y2⟩) hHeld ?r2
    case y2 => (intro w hSw; (try dsimp only at hSw); go_simp; first | done | with_reducible rfl)
    (try simp only [Act.put, List.setIfInBounds_toArray, List.set_cons_zero, List.set_cons_succ])
    refine wpAnyH_take_at (i := 3) (v := ?v3) rfl (by kernel_rfl) (by kernel_rfl) (by kernel_rfl) (fun _ _ _ h => h) (Or.inl ⟨by rfl, ?y3⟩) hHeld ?r3
    case y3 => (intro w hSw; (try dsimp only at hSw); go_simp; first | done | with_reducible rfl)
    (try simp only [Act.put, List.setIfInBounds_toArray, List.set_cons_zero, List.set_cons_succ])
    refine wpAnyH_take_at (i := 4) (v := ?v4) rfl (by kernel_rfl) (by kernel_rfl) (by kernel_rfl) (fun _ _ _ h => h) (Or.inl ⟨by rfl, ?y4⟩) hHeld ?r4
    case y4 => (intro w hSw; (try dsimp only at hSw); go_simp; first | done | with_reducible rfl)
    (try simp only [Act.put, List.setIfInBounds_toArray, List.set_cons_zero, List.set_cons_succ])
    refine wpAnyH_one (i := 5) (by kernel_rfl) rfl (fun KK hK => ?_)
    go_simp
    refine HRU.out.mono ?_
    rintro e wR ⟨u, rfl, hu⟩
    obtain ⟨ao3, cap3, rfl, hle3, hrow3, hob3, htl3⟩ := hu.out.1
    have HER := Lib.hid (reval_live HPW.out.1 HPW.out.2 hP0 hK0 HRN.out (by omega) (by rw [← HRN.out]; exact hle3) hrow3 HSD.out.is.right)
    have HKR := Lib.hid hu.out.2
    rw [HRN.out]
    clear hrow3 htl3 hob3 hle3 hu
    go_simp
    refine hK.out _ _ ?s5 (fun hHeld => ?_)
    case s5 => exact HBX.out _ (HSD.out.kp.trans HKR.out)
    clear hK KK
    (try simp only [Act.put, List.setIfInBounds_toArray, List.set_cons_zero, List.set_cons_succ])
    refine wpAnyH_one (i := 6) (by kernel_rfl) rfl (fun KK hK => ?_)
    go_simp
    refine HER.out.mono ?_
    rintro e wE ⟨mb, rfl, hm⟩
    have HKE := Lib.hid hm.out.1
    go_simp
    refine hK.out _ _ ?s6 (fun hHeld => ?_)
    case s6 => exact HBX.out _ ((HSD.out.kp.trans HKR.out).trans HKE.out)
    clear hK KK
    (try simp only [Act.put, List.setIfInBounds_toArray, List.set_cons_zero, List.set_cons_succ])
    refine wpAnyH_take_at (i := 7) (v := ?v7) rfl (by kernel_rfl) (by kernel_rfl) (by kernel_rfl) (fun _ _ _ h => h) (Or.inl ⟨by rfl, ?y7⟩) hHeld ?r7
    case y7 => (intro w hSw; (try dsimp only at hSw); go_simp; first | done | with_reducible rfl)
    (try simp only [Act.put, List.setIfInBounds_toArray, List.set_cons_zero, List.set_cons_succ])
    refine wpAnyH_done (by kernel_rfl) ?_ _
    refine NoPanic.normal ?_
    have HSE : Hid (LvS W0 wE lb P K rs Fp) := (HSD.out.quiet HKR.out).quiet HKE.out
    obtain ⟨am, cm, rbm, F, hRM, hF⟩ := hm.out.2
    have HRM := Lib.hid hRM
    have HF := Lib.hid hF
    clear hHeld H12 HSD HRU HER HKR HKE hm hRM hF hP0 hK0
    obtain ⟨N, hN⟩ : ∃ N, P * K = N := ⟨_, rfl⟩
    have hN40 : N ≤ 40 := by rw [← hN]; exact Nat.le_trans (Nat.mul_le_mul hPl hKl) (by decide)
    rw [hN] at HRM HF
    have HNE := Lib.hid hN
    clear hN
    obtain ⟨e0, e1, e2⟩ := HRM.out.cells
    have HS0 : Hid (LvS W0 wE lb P K rs Fp ∧ Keeps (fun _ => False) wE wE) := ⟨HSE.out, Keeps.refl _ _⟩
    clear HSE
    go_wp2_with fail
    clear e0 e1 e2
    go_loopg [9, 65] N (fun g nv t wy => ∃ (i s : Nat), i ≤ N ∧ g = N - i ∧ s ≤ i * 8 ∧ nv = .int .i64 s ∧ t = .int .i64 i ∧ Hid (s = sumTo (fun a => cnt (F a) P) i) ∧ Hid (LvS W0 wy lb P K rs Fp ∧ Keeps (fun _ => False) wE wy))
    case atStart => exact ⟨0, 0, Nat.zero_le _, rfl, Nat.le_refl _, rfl, rfl, Lib.hid rfl, HS0⟩
    case round =>
      clear HS0
      obtain ⟨i, s, hi, rfl, hs8, rfl, rfl, HSU, HS⟩ := hrel
      by_cases hlt : i < N
      · have hiI : (i : Int) < (N : Int) := by omega
        have hwi : IntKind.i64.wrap ((i : Int) + 1) = (i : Int) + 1 := IntWalk.i64_in _ (by omega)
        obtain ⟨L, hL⟩ : ∃ L, listTo (F i) P = L := ⟨_, rfl⟩
        have HLD := Lib.hid hL
        obtain ⟨ln, hln⟩ : ∃ ln, L.length = ln := ⟨_, rfl⟩
        have HLN := Lib.hid hln
        have hl8 : ln ≤ 8 := by rw [← hln, ← hL, listTo_len]; exact Nat.le_trans (cnt_le _ _) hPl
        have HMB : Hid (Calls Tryd.prog 12 #[.pointer (some ⟨lb, 0, none⟩), .int .i64 i] wr fun e W' => ∃ ao cap, e = .returned (.slice ao ln cap) ∧ Hid (LsR W' (.slice ao ln cap) L ∧ Keeps (fun _ => False) wr W')) := by
          refine (members_spec HS.out.1.is (HS.out.1.tab HT0.out) (i : Int)).mono ?_
          rintro e W' ⟨u, l, rfl, hu⟩
          obtain ⟨h1, h2, h3, h4⟩ := hu.out
          rw [HNE.out] at h4
          have e : l = L := by rw [← hL]; exact mem_list HF.out h3 h4
          subst e
          obtain ⟨ao, cap, hu2, _⟩ := h1.reads
          rw [hln] at hu2
          rw [hu2] at h1 ⊢
          exact ⟨ao, cap, rfl, h1, h2⟩
        clear hL hln
        go_wp2_with (go_at_call 12; refine HMB.out.mono ?_; rintro e w4 ⟨al, cl, rfl, hls⟩)
        have HS4 : Hid (LvS W0 w4 lb P K rs Fp ∧ Keeps (fun _ => False) wE w4 ∧ LsR w4 (.slice al ln cl) L) := ⟨HS.out.1.quiet hls.out.2, HS.out.2.trans hls.out.2, hls.out.1⟩
        clear HMB HS hls
        go_loopg [9, 72] ln (fun g nv t wy => ∃ j : Nat, j ≤ ln ∧ g = ln - j ∧ nv = .int .i64 ((s + j : Nat) : Int) ∧ t = .int .i64 j ∧ Hid (LvS W0 wy lb P K rs Fp ∧ Keeps (fun _ => False) wE wy ∧ LsR wy (.slice al ln cl) L))
        case atStart => exact ⟨0, Nat.zero_le _, rfl, rfl, rfl, HS4⟩
        case round =>
          clear HS4
          obtain ⟨j, hj, rfl, rfl, rfl, HI⟩ := hrel
          by_cases hlt2 : j < ln
          · have hjI : (j : Int) < (ln : Int) := by omega
            have hwj : IntKind.i64.wrap ((j : Int) + 1) = (j : Int) + 1 := IntWalk.i64_in _ (by omega)
            have hws : IntKind.i64.wrap (((s + j : Nat) : Int) + 1) = ((s + (j + 1) : Nat) : Int) := by rw [show (((s + j : Nat) : Int) + 1) = ((s + (j + 1) : Nat) : Int) by omega]; exact IntWalk.i64_in _ (by omega)
            obtain ⟨c, hc⟩ : ∃ c, L[j]? = some c := ⟨_, List.getElem?_eq_getElem (by rw [HLN.out]; exact hlt2)⟩
            obtain ⟨au', cu', he, _, _, hrd⟩ := HI.out.2.2.reads
            simp only [Value.slice.injEq] at he
            obtain ⟨rfl, -, rfl⟩ := he
            obtain ⟨gu, rfl, hgu, hcc⟩ := hrd (by rw [HLN.out]; omega)
            have cU := hcc j c hc
            have hcm := List.mem_of_getElem? hc
            rw [← HLD.out, listTo_iff] at hcm
            have HHA : Hid (Calls Tryd.prog 13 #[.pointer (some ⟨mb, 0, none⟩), .int .i64 i, .int .i64 c] wr fun e W' => e = .returned (.bool true) ∧ wr = W') := by
              refine (rhas_spec (HRM.out.keeps HI.out.2.1) (i : Int) (c : Int)).mono ?_
              rintro e W' ⟨rfl, rfl⟩
              exact ⟨by rw [hasB_in hlt hcm.1, hcm.2], rfl⟩
            clear hcc hrd hc hcm
            generalize hsj : ((s + j : Nat) : Int) = sj at hws ⊢
            clear hsj
            go_wp2_with (go_at_call 13; refine HHA.out.mono ?_; rintro e W' ⟨rfl, rfl⟩)
            go_roundg (ln - (j + 1))
            case measure => omega
            case rel => exact ⟨j + 1, by omega, rfl, rfl, by go_num, HI⟩
          · have hjE : j = ln := by omega
            have hjI : ¬ (j : Int) < (ln : Int) := by omega
            have HN1 : Hid (s + j = sumTo (fun a => cnt (F a) P) (i + 1)) := by
              show _ = _
              unfold sumTo
              rw [← HSU.out, hjE, ← HLN.out, ← HLD.out, listTo_len]
            have HN : Hid (LvS W0 wr lb P K rs Fp ∧ Keeps (fun _ => False) wE wr) := ⟨HI.out.1, HI.out.2.1⟩
            have hs9 : s + j ≤ (i + 1) * 8 := by omega
            clear HI HSU hjE
            generalize s + j = s2 at HN1 hs9 ⊢
            go_wp2_with fail
            go_roundg (N - (i + 1))
            case measure => omega
            case rel => exact ⟨i + 1, s2, by omega, rfl, hs9, rfl, by go_num, HN1, HN⟩
      · have hiE : i = N := by omega
        have hiI : ¬ (i : Int) < (N : Int) := by omega
        have HLE : Hid (Calls Tryd.prog 14 #[.pointer (some ⟨lb, 0, none⟩)] wr fun e W' => e = .returned (.int .i64 s) ∧ wr = W') := by
          refine (llen_spec HS.out.1.is).mono ?_
          rintro e W' ⟨q, rfl, rfl, hq⟩
          obtain ⟨In, hq1, hq2⟩ := hq.out
          rw [HNE.out] at hq1 hq2
          have e : In = F := in_same hq2 HF.out
          subst e
          have e2 : s = q := by rw [hq1, HSU.out, hiE]; rfl
          rw [e2]
          exact ⟨rfl, rfl⟩
        have HRU := Lib.hid (lrules_spec HS.out.1.is)
        have HSS : Hid (LvS W0 wr lb P K rs Fp) := HS.out.1
        have HNOD : Hid rs.Nodup := HS.out.1.is.nodup
        clear HSU HS hiE HRM HF
        go_upto_region 27 with (go_at_call 14; refine HLE.out.mono ?_; rintro e W' ⟨rfl, rfl⟩)
        clear HLE
        go_wp2_with (go_at_call 11; refine HRU.out.mono ?_; rintro e w4 ⟨u, rfl, hu⟩; obtain ⟨ao4, cap4, rfl, hle4, _, hob4, htl4⟩ := hu.out.1)
        have HTL : Hid (∃ Fp2, LvS W0 w4 lb P K (rs.drop 0) Fp2 ∧ (∀ k, (Value.slice ao4 rs.length cap4).ownBlock = some k → ¬ Fp2 k ∧ k < w4.heap.size) ∧ TailRow w4 29 6 (.slice ao4 rs.length cap4) rs.length (rlCells rs)) := by
          refine ⟨Fp, HSS.out.quiet hu.out.2, fun k e => ⟨fun hf => ?_, ?_⟩, htl4⟩
          · have h1 := hob4 k e
            have h2 := HSS.out.is.lt k hf
            omega
          · obtain ⟨_, hx⟩ := TailRow.lt htl4 k e
            exact lt_of_heap hx
        rw [HRN.out] at HTL ⊢
        clear HRU HSS hu hle4 hob4 htl4
        go_loopg [92] rn (fun g t wy => ∃ j : Nat, j ≤ rn ∧ g = rn - j ∧ t = .int .i64 j ∧ Hid (∃ Fp2, LvS W0 wy lb P K (rs.drop j) Fp2 ∧ (∀ k, (Value.slice ao4 rn cap4).ownBlock = some k → ¬ Fp2 k ∧ k < wy.heap.size) ∧ TailRow wy 29 6 (.slice ao4 rn cap4) rn (rlCells rs)))
        case atStart => exact ⟨0, Nat.zero_le _, rfl, rfl, HTL.out⟩
        case round =>
          clear HTL
          obtain ⟨j, hj, rfl, rfl, HI⟩ := hrel
          by_cases hlt2 : j < rn
          · have hjI : (j : Int) < (rn : Int) := by omega
            have hwj : IntKind.i64.wrap ((j : Int) + 1) = (j : Int) + 1 := IntWalk.i64_in _ (by omega)
            obtain ⟨r, hr⟩ : ∃ r, rs[j]? = some r := ⟨_, List.getElem?_eq_getElem (by rw [HRN.out]; exact hlt2)⟩
            obtain ⟨Fp2, HL2, hob2, htl2⟩ := HI.out
            have htl3 := htl2
            rw [← HRN.out] at htl3
            obtain ⟨ax, cx, hvx, _, _, hrow⟩ := TailRow.rules htl3
            simp only [Value.slice.injEq] at hvx
            obtain ⟨rfl, -, rfl⟩ := hvx
            obtain ⟨gg, oo, rfl, hgg, hcc⟩ := hrow (by rw [HRN.out]; omega)
            obtain ⟨q0, q1, q2, q3, q4, q5⟩ := hcc j r hr
            have HRR := Lib.hid hr
            obtain ⟨kind, head, who, a, b, via⟩ := r
            simp only [] at q0 q1 q2 q3 q4 q5
            have k1 : Keeps (fun _ => False) wr (wr.alloc (.cells #[.int .i64 kind, .int .i64 head, .int .i64 who, .int .i64 a, .int .i64 b, .int .i64 via] 29)) := (Keeps.refl _ _).alloc _
            have HS1 := Lib.hid (HL2.quiet k1)
            have hl900 : (rs.drop j).length ≤ 900 := by rw [List.length_drop, HRN.out]; omega
            have HA := Lib.hid (HS1.out.drop HT0.out hl900 ⟨kind, head, who, a, b, via⟩)
            have HTB := Lib.hid (And.intro hob2 (And.intro (TailRow.keeps htl2 k1 (fun _ _ x => x)) k1.size))
            have HND : Hid rs.Nodup := HNOD
            clear HI HL2 hob2 htl2 htl3 hrow hcc hr hl900 k1
            go_upto_region 31 with (go_at_call 9; refine HA.out.mono ?_; rintro e w' ⟨u, code, rs', ans, Fp', rfl, hp⟩)
            obtain ⟨rfl, rfl⟩ := hp.out.2.2.2.2.head HND.out HRR.out
            have HN : Hid (∃ Fp2, LvS W0 w' lb P K (rs.drop (j + 1)) Fp2 ∧ (∀ k, (Value.slice (some ⟨gg, oo, none⟩) rn cap4).ownBlock = some k → ¬ Fp2 k ∧ k < w'.heap.size) ∧ TailRow w' 29 6 (.slice (some ⟨gg, oo, none⟩) rn cap4) rn (rlCells rs)) := by
              refine ⟨Fp', hp.out.1, fun k e => ⟨fun hf => ?_, ?_⟩, ?_⟩
              · rcases hp.out.2.1.fp k hf with h1 | h1
                · exact (HTB.out.1 k e).1 h1
                · have h2 := (HTB.out.1 k e).2
                  have h3 := HTB.out.2.2
                  omega
              · have h2 := (HTB.out.1 k e).2
                have h3 := HTB.out.2.2
                have h4 := hp.out.2.1.keeps.size
                omega
              · exact TailRow.keeps HTB.out.2.1 hp.out.2.1.keeps (fun k e hf => (HTB.out.1 k e).1 hf)
            clear HA hp HS1 HTB HRR HND q0 q1 q2 q3 q4 q5
            go_wp2_with fail
            go_roundg (rn - (j + 1))
            case measure => omega
            case rel => exact ⟨j + 1, by omega, rfl, by go_num, HN⟩
          · have hjI : ¬ (j : Int) < (rn : Int) := by omega
            have hje : j = rn := by omega
            obtain ⟨Fp2, HL2, _, _⟩ := HI.out
            have hnil : rs.drop j = [] := List.drop_eq_nil_of_le (by rw [HRN.out]; omega)
            rw [hnil] at HL2
            have HLE : Hid (Calls Tryd.prog 14 #[.pointer (some ⟨lb, 0, none⟩)] wr fun e W' => e = .returned (.int .i64 0) ∧ wr = W') := by
              refine (llen_spec HL2.is).mono ?_
              rintro e W' ⟨q, rfl, rfl, hq⟩
              obtain ⟨In, hq1, hq2⟩ := hq.out
              rw [no_tot hq2] at hq1
              rw [hq1]
              exact ⟨rfl, rfl⟩
            have HRU : Hid (Calls Tryd.prog 11 #[.pointer (some ⟨lb, 0, none⟩)] wr fun e W' => ∃ a c, e = .returned (.slice a 0 c) ∧ Hid (Keeps (fun _ => False) W0 W')) := by
              refine (lrules_spec HL2.is).mono ?_
              rintro e W' ⟨u, rfl, hu⟩
              obtain ⟨a, c, rfl, _⟩ := hu.out.1
              exact ⟨a, c, rfl, HL2.kp.trans hu.out.2⟩
            clear HI HL2 hnil hje HNOD
            go_wp2_with (first | (go_at_call 14; refine HLE.out.mono ?_; rintro e W' ⟨rfl, rfl⟩) | (go_at_call 11; refine HRU.out.mono ?_; rintro e w5 ⟨a5, c5, rfl, hk5⟩) | (go_at_call 6; refine (lives43_any _ (HT0.out.keeps hk5.out (fun x => x))).mono ?_; rintro e w6 ⟨rfl, hk6⟩))
            have HP := Lib.hid (HB.out _ (hk5.out.trans hk6.out))
            clear HLE HRU hk5 hk6
            go_ret
            exact ⟨rfl, HP.out⟩
theorem liveLeast_core (w : World) (c : Array Value) (hs : c.size = 2) (hf : Fits [.int .i64, .int .i64] 0 c.toList) (ao : Option Addr) (n cap : Nat) (G : Nat → Nat → Value) (R : IsRow w [.int .u64, .int .i64, .int .i64, .int .i64, .int .i64, .int .i64, .int .i64] ao n cap G) (hT : TabIn w) :
    Calls Tryd.prog 3 #[.agg c, .slice ao n cap] w fun e w' => e = .returned (.bool true) ∧ Below w.heap.size w w' := by
  obtain ⟨x, y, rfl⟩ := dims_of_fits hs hf
  obtain ⟨os, hos, hO, hkd⟩ := R.lops
  by_cases h0 : 8 < x
  · exact liveLeast_small w x y ao n cap (.inl h0) hT
  · by_cases h1 : 5 < y
    · exact liveLeast_small w x y ao n cap (.inr h1) hT
    · exact liveLeast_any w x y ao n cap h0 h1 os hos hkd hO hT
end Go.Proofs.YtaabmkebbnkonaaDoor
