/-
  The walk of the law LivePlays.
-/
import Derived.Test.YtaabmkebbnkonaaDoorLivePlain2
import Derived.Test.YtaabmkebbnkonaaDoorRefRight
import Derived.Deep.CutBlock
import Derived.Deep.DeepCutAuto
set_option linter.unusedVariables false
set_option linter.unusedSimpArgs false
set_option linter.unnecessarySimpa false
namespace Go.Proofs.YtaabmkebbnkonaaDoor
open Go.ChangeShapes Go.WideShapes Go.ChangeAt Go.RowKit Go.Deep SetPlain
set_option maxRecDepth 100000
set_option maxHeartbeats 12800000
theorem livePlays_small (w : World) (d0 d1 : Int) (ao : Option Addr) (n cap : Nat) (h : 8 < d0 ∨ 5 < d1) (hT : TabIn w) :
    Calls Tryd.prog 4 #[.agg #[.int .i64 d0, .int .i64 d1], .slice ao n cap] w fun e w' => e = .returned (.bool true) ∧ Below w.heap.size w w' := by
  obtain ⟨W0, hW0⟩ : ∃ W0, (w.alloc (.cells #[.int .i64 d0, .int .i64 d1] 22)) = W0 := ⟨_, rfl⟩
  have hal := (MapKept.heap_alloc w (.cells #[.int .i64 d0, .int .i64 d1] 22)).1
  have hk0 : Keeps (fun _ => False) w (w.alloc (.cells #[.int .i64 d0, .int .i64 d1] 22)) := (Keeps.refl _ _).alloc _
  rw [hW0] at hal hk0
  have c0 : W0.cell? ⟨w.heap.size, 0, none⟩ = some (.int .i64 d0) := by rw [cell_of_heap hal]; rfl
  have c1 : W0.cell? ⟨w.heap.size, 1, none⟩ = some (.int .i64 d1) := by rw [cell_of_heap hal]; rfl
  have HL := Lib.hid (lives43_any W0 (hT.keeps hk0 (fun x => x)))
  have HK0 := Lib.hid hk0
  clear hT hk0 hal
  have hg : 8 < d0 ∨ (¬ 8 < d0 ∧ 5 < d1) := by omega
  clear h
  rcases hg with h0 | ⟨h0, h1⟩
  all_goals
    go_enter Tryd.func4, Tryd.ntmps4
    go_upto_region 1 with fail
    (try simp only [hW0])
    clear hW0
    go_wp2_with (go_at_call 6; refine HL.out.mono ?_; rintro e w2 ⟨rfl, hb⟩)
    have HP := Lib.hid ((HK0.out.trans hb.out).below (Nat.le_refl _) (fun _ _ x => x))
    clear HL hb HK0
    go_ret
    exact ⟨rfl, HP.out⟩
theorem livePlays_any (w : World) (d0 d1 : Int) (ao : Option Addr) (n cap : Nat) (h0 : ¬ 8 < d0) (h1 : ¬ 5 < d1) (os : List LOp) (hos : os.length = n) (hkd : ∀ x ∈ os, x.kind < 18446744073709551616) (hO : LOpRow w ao os) (hT : TabIn w) :
    Calls Tryd.prog 4 #[.agg #[.int .i64 d0, .int .i64 d1], .slice ao n cap] w fun e w' => e = .returned (.bool true) ∧ Below w.heap.size w w' := by
  obtain ⟨W0, hW0⟩ : ∃ W0, (w.alloc (.cells #[.int .i64 d0, .int .i64 d1] 22)) = W0 := ⟨_, rfl⟩
  have hal := (MapKept.heap_alloc w (.cells #[.int .i64 d0, .int .i64 d1] 22)).1
  have hk0 : Keeps (fun _ => False) w (w.alloc (.cells #[.int .i64 d0, .int .i64 d1] 22)) := (Keeps.refl _ _).alloc _
  rw [hW0] at hal hk0
  have c0 : W0.cell? ⟨w.heap.size, 0, none⟩ = some (.int .i64 d0) := by rw [cell_of_heap hal]; rfl
  have c1 : W0.cell? ⟨w.heap.size, 1, none⟩ = some (.int .i64 d1) := by rw [cell_of_heap hal]; rfl
  obtain ⟨P, hP⟩ := within_cases d0 64
  obtain ⟨K, hK⟩ := within_cases d1 64
  have hPl : P ≤ 8 := by unfold Within at hP; omega
  have hKl : K ≤ 5 := by unfold Within at hK; omega
  have hpe : max d0 0 = (P : Int) := by unfold Within at hP; omega
  have hke : max d1 0 = (K : Int) := by unfold Within at hK; omega
  have HNEW := Lib.hid (lnew_spec (z := W0.heap.size) hP hK W0 (Nat.le_refl _))
  have HBX : Hid (∀ W, Keeps (fun _ => False) W0 W → W.cell? ⟨w.heap.size, 0, none⟩ = some (.int .i64 d0) ∧ W.cell? ⟨w.heap.size, 1, none⟩ = some (.int .i64 d1)) := fun W hk => by
    have e := (hk.block _ (lt_of_heap hal) (fun x => x)).trans hal
    refine ⟨?_, ?_⟩ <;> (rw [cell_of_heap e]; rfl)
  have HT0 : Hid (TabIn W0) := hT.keeps hk0 (fun x => x)
  have HOS : Hid (∀ W, Keeps (fun _ => False) W0 W → LOpRow W ao os) := fun W hk => hO.keeps (hk0.trans hk)
  have HB : Hid (∀ W, Keeps (fun _ => False) W0 W → Below w.heap.size w W) := fun W hk => (hk0.trans hk).below (Nat.le_refl _) (fun _ _ x => x)
  have HOL := Lib.hid hos
  have HKD := Lib.hid hkd
  obtain ⟨N, hN⟩ : ∃ N, P * K = N := ⟨_, rfl⟩
  have hN40 : N ≤ 40 := by rw [← hN]; exact Nat.le_trans (Nat.mul_le_mul hPl hKl) (by decide)
  have HNE := Lib.hid hN
  clear hT hk0 hal hO hos hkd hP hK hN
  go_enter Tryd.func4, Tryd.ntmps4
  go_upto_region 1 with fail
  (try simp only [hW0])
  clear hW0
  go_upto_region 5 with (go_at_call 7; refine HNEW.out.mono ?_; rintro e w1 ⟨lb, Fp0, rfl, hn⟩)
  have HS0 : Hid (PlS W0 w1 lb P K [] Fp0 (.slice none 0 0) []) := ⟨⟨hn.out.1, hn.out.2.1, hn.out.2.2⟩, TailRow.nil _ _ _, fun k e => by cases e⟩
  have H5 : (fun w' : World => w'.cell? ⟨w.heap.size, 0, none⟩ = some (.int .i64 d0) ∧ w'.cell? ⟨w.heap.size, 1, none⟩ = some (.int .i64 d1)) w1.drew := HBX.out _ (HS0.out.st.kp.trans ((Keeps.refl _ _).drew))
  clear HNEW hn c0 c1
  refine wp_region_noPanic ?_
  refine wp_region_held_drew (S := (fun w' : World => w'.cell? ⟨w.heap.size, 0, none⟩ = some (.int .i64 d0) ∧ w'.cell? ⟨w.heap.size, 1, none⟩ = some (.int .i64 d1))) (by kernel_rfl) H5 (fun hHeld => ?_)
  refine wpAnyH_take_at (i := 0) (v := ?v0x1) rfl (by kernel_rfl) (by kernel_rfl) (by kernel_rfl) (fun _ _ _ h => h) (Or.inl ⟨by rfl, ?y0x1⟩) hHeld ?r0x1
  case y0x1 => (intro w hSw; (try dsimp only at hSw); go_simp; first | done | with_reducible rfl)
  (try simp only [Act.put, List.setIfInBounds_toArray, List.set_cons_zero, List.set_cons_succ])
  refine wpAnyH_take_at (i := 1) (v := ?v1x2) rfl (by kernel_rfl) (by kernel_rfl) (by kernel_rfl) (fun _ _ _ h => h) (Or.inl ⟨by rfl, ?y1x2⟩) hHeld ?r1x2
  case y1x2 => (intro w hSw; (try dsimp only at hSw); go_simp; first | done | with_reducible rfl)
  (try simp only [Act.put, List.setIfInBounds_toArray, List.set_cons_zero, List.set_cons_succ])
  refine wpAnyH_take_at (i := 2) (v := ?v2x3) rfl (by kernel_rfl) (by kernel_rfl) (by kernel_rfl) (fun _ _ _ h => h) (Or.inl ⟨by rfl, ?y2x3⟩) hHeld ?r2x3
  case y2x3 => (intro w hSw; (try dsimp only at hSw); go_simp; first | done | with_reducible rfl)
  (try simp only [Act.put, List.setIfInBounds_toArray, List.set_cons_zero, List.set_cons_succ])
  refine wpAnyH_take_at (i := 3) (v := ?v3x4) rfl (by kernel_rfl) (by kernel_rfl) (by kernel_rfl) (fun _ _ _ h => h) (Or.inl ⟨by rfl, ?y3x4⟩) hHeld ?r3x4
  case y3x4 => (intro w hSw; (try dsimp only at hSw); go_simp; first | done | with_reducible rfl)
  (try simp only [Act.put, List.setIfInBounds_toArray, List.set_cons_zero, List.set_cons_succ])
  refine wpAnyH_take_at (i := 4) (v := ?v4x5) rfl (by kernel_rfl) (by kernel_rfl) (by kernel_rfl) (fun _ _ _ h => h) (Or.inl ⟨by rfl, ?y4x5⟩) hHeld ?r4x5
  case y4x5 => (intro w hSw; (try dsimp only at hSw); go_simp; first | done | with_reducible rfl)
  (try simp only [Act.put, List.setIfInBounds_toArray, List.set_cons_zero, List.set_cons_succ])
  refine wpAnyH_take_at (i := 5) (v := ?v5x6) rfl (by kernel_rfl) (by kernel_rfl) (by kernel_rfl) (fun _ _ _ h => h) (Or.inl ⟨by rfl, ?y5x6⟩) hHeld ?r5x6
  case y5x6 => (intro w hSw; (try dsimp only at hSw); go_simp; first | done | with_reducible rfl)
  (try simp only [Act.put, List.setIfInBounds_toArray, List.set_cons_zero, List.set_cons_succ])
  refine wpAnyH_take_at (i := 6) (v := ?v6x7) rfl (by kernel_rfl) (by kernel_rfl) (by kernel_rfl) (fun _ _ _ h => h) (Or.inl ⟨by rfl, ?y6x7⟩) hHeld ?r6x7
  case y6x7 => (intro w hSw; (try dsimp only at hSw); go_simp; first | done | with_reducible rfl)
  (try simp only [Act.put, List.setIfInBounds_toArray, List.set_cons_zero, List.set_cons_succ])
  refine wpAnyH_take_at (i := 7) (v := ?v7x8) rfl (by kernel_rfl) (by kernel_rfl) (by kernel_rfl) (fun _ _ _ h => h) (Or.inl ⟨by rfl, ?y7x8⟩) hHeld ?r7x8
  case y7x8 => (intro w hSw; (try dsimp only at hSw); go_simp; first | done | with_reducible rfl)
  (try simp only [Act.put, List.setIfInBounds_toArray, List.set_cons_zero, List.set_cons_succ])
  refine wpAnyH_done (by kernel_rfl) ?_ _
  refine NoPanic.normal ?_
  have HS1 : Hid (PlS W0 w1.drew lb P K [] Fp0 (.slice none 0 0) []) := HS0.out.quiet ((Keeps.refl _ _).drew)
  clear hHeld H5 HS0 hpe hke
  go_upto_block 0 with fail
  go_cut [6] (fun rv wx => ∃ (rs : List Rl) (Fp : Nat → Prop), Hid (PlS W0 wx lb P K rs Fp rv rs ∧ rs.length ≤ 30))
  case first =>
    clear HBX HB
    go_wp2_with fail
    go_loopg [6, 44] n (fun g rv t wy => ∃ (j : Nat) (rs : List Rl) (Fp : Nat → Prop), j ≤ n ∧ j ≤ 30 ∧ g = n - j ∧ t = .int .i64 j ∧ Hid (PlS W0 wy lb P K rs Fp rv rs ∧ rs.length ≤ j))
    case atStart => exact ⟨0, [], Fp0, Nat.zero_le _, Nat.zero_le _, rfl, rfl, HS1.out, Nat.le_refl _⟩
    case round =>
      clear HS1
      obtain ⟨j, rs, Fp, hj, hj30, rfl, rfl, HS⟩ := hrel
      by_cases hlt : j < n
      · have hjI : (j : Int) < (n : Int) := by omega
        have hwj : IntKind.i64.wrap ((j : Int) + 1) = (j : Int) + 1 := IntWalk.i64_in _ (by omega)
        obtain ⟨x, hx⟩ : ∃ x, os[j]? = some x := ⟨_, List.getElem?_eq_getElem (by rw [HOL.out]; exact hlt)⟩
        obtain ⟨gg, oo, rfl, hgg, hcc⟩ := HOS.out wr HS.out.1.st.kp (by rw [HOL.out]; omega)
        obtain ⟨q0, q1, q2, q3, q4, q5, q6⟩ := hcc j x hx
        have hkx := HKD.out x (List.mem_of_getElem? hx)
        obtain ⟨kd, rl⟩ := x
        obtain ⟨kind, head, who, a, b, via⟩ := rl
        simp only [] at q0 q1 q2 q3 q4 q5 q6 hkx
        by_cases h30 : j = 30
        · have h30' : ((j : Int) == 30) = true := by rw [h30]; rfl
          clear h30
          clear hcc hx
          have HE : Hid (PlS W0 (wr.alloc (.cells #[.int .u64 kd, .int .i64 kind, .int .i64 head, .int .i64 who, .int .i64 a, .int .i64 b, .int .i64 via] 31)) lb P K rs Fp u6 rs ∧ rs.length ≤ 30) := ⟨HS.out.1.quiet ((Keeps.refl _ _).alloc _), Nat.le_trans HS.out.2 hj30⟩
          clear HS
          go_wp2_with fail
          go_meet
          case rel => exact ⟨rs, Fp, HE⟩
        · have h30' : ((j : Int) == 30) = false := beq_eq_false_iff_ne.2 (by omega)
          have hal := (MapKept.heap_alloc wr (.cells #[.int .u64 kd, .int .i64 kind, .int .i64 head, .int .i64 who, .int .i64 a, .int .i64 b, .int .i64 via] 31)).1
          have HS1 := Lib.hid (HS.out.1.quiet ((Keeps.refl _ wr).alloc (.cells #[.int .u64 kd, .int .i64 kind, .int .i64 head, .int .i64 who, .int .i64 a, .int .i64 b, .int .i64 via] 31)))
          obtain ⟨rn, hrn⟩ : ∃ rn, rs.length = rn := ⟨_, rfl⟩
          have hrnj : rn ≤ j := by rw [← hrn]; exact HS.out.2
          have HRN := Lib.hid hrn
          have hev := HS1.out.eval HS1.out.st.is.right hrn (by omega) (by omega) (by omega) HNE.out
          obtain ⟨ar, cr, rfl, hcr, _, _⟩ := hev
          obtain ⟨e, he⟩ : ∃ e : Nat, kd % 2 = e := ⟨_, rfl⟩
          have hm : ((kd : Int)).tmod 2 = (e : Int) := by rw [Int.tmod_eq_emod_of_nonneg (by omega)]; omega
          obtain ⟨bb, hbb⟩ : ∃ bb, ((e : Int) == 0) = bb := ⟨_, rfl⟩
          clear hcc hx HS hrn he
          go_upto_region 10 with fail
          clear q0 q1 q2 q3 q4 q5 q6
          obtain ⟨wX, hwX⟩ : ∃ wX, wr.alloc (.cells #[.int .u64 kd, .int .i64 kind, .int .i64 head, .int .i64 who, .int .i64 a, .int .i64 b, .int .i64 via] 31) = wX := ⟨_, rfl⟩
          simp only [hwX] at hal HS1 ⊢
          obtain ⟨ob, hob⟩ : ∃ ob, wr.heap.size = ob := ⟨_, rfl⟩
          simp only [hob] at hal ⊢
          clear hwX hob
          have HBO := Lib.hid hal
          clear hal
          obtain ⟨ax, cx, hvx, _, hrow, _⟩ := HS1.out.eval HS1.out.st.is.right HRN.out (by omega) (by omega) (by omega) HNE.out
          simp only [Value.slice.injEq] at hvx
          obtain ⟨rfl, -, rfl⟩ := hvx
          have HROW := Lib.hid hrow
          clear hrow
          go_wp2_with fail
          go_loopg [11, 53] rn (fun g av t wy => ∃ (q : Nat) (x : Int), q ≤ rn ∧ g = rn - q ∧ av = .int .i64 x ∧ t = .int .i64 q ∧ Hid (AtI rs ⟨kind, head, who, a, b, via⟩ q x ∧ Keeps (fun _ => False) wX wy))
          case atStart => exact ⟨0, -1, Nat.zero_le _, rfl, rfl, rfl, AtI.start _ _, Keeps.refl _ _⟩
          case round =>
            obtain ⟨q, x, hq, rfl, rfl, rfl, HQ⟩ := hrel
            by_cases hltq : q < rn
            · have hqI : (q : Int) < (rn : Int) := by omega
              have hwq : IntKind.i64.wrap ((q : Int) + 1) = (q : Int) + 1 := IntWalk.i64_in _ (by omega)
              obtain ⟨y, hy⟩ : ∃ y, rs[q]? = some y := ⟨_, List.getElem?_eq_getElem (by rw [HRN.out]; exact hltq)⟩
              obtain ⟨gy, oy, rfl, hgy, hcy⟩ := (HROW.out.keeps (HQ.out.2.below (Nat.le_refl _) (fun _ _ x => x)) (fun _ _ _ h => h)) (by rw [HRN.out]; omega)
              obtain ⟨y0, y1, y2, y3, y4, y5⟩ := hcy q y hy
              have HYY := Lib.hid hy
              obtain ⟨yk, yh, yw, ya, yb, yv⟩ := y
              simp only [] at y0 y1 y2 y3 y4 y5
              have kY : Keeps (fun _ => False) wr (wr.alloc (.cells #[.int .i64 yk, .int .i64 yh, .int .i64 yw, .int .i64 ya, .int .i64 yb, .int .i64 yv] 29)) := (Keeps.refl _ _).alloc _
              have halY := (MapKept.heap_alloc wr (.cells #[.int .i64 yk, .int .i64 yh, .int .i64 yw, .int .i64 ya, .int .i64 yb, .int .i64 yv] 29)).1
              have hkXY := HQ.out.2.trans kY
              have HAQ := Lib.hid HQ.out.1
              clear hcy hy HQ kY
              go_upto_region 14 with fail
              clear y0 y1 y2 y3 y4 y5
              obtain ⟨wY, hwY⟩ : ∃ wY, wr.alloc (.cells #[.int .i64 yk, .int .i64 yh, .int .i64 yw, .int .i64 ya, .int .i64 yb, .int .i64 yv] 29) = wY := ⟨_, rfl⟩
              simp only [hwY] at halY hkXY ⊢
              obtain ⟨yb0, hyb⟩ : ∃ yb0, wr.heap.size = yb0 := ⟨_, rfl⟩
              simp only [hyb] at halY ⊢
              clear hwY hyb
              have eO := (hkXY.block _ (lt_of_heap HBO.out) (fun x => x)).trans HBO.out
              have z0 : wY.cell? ⟨yb0, 0, none⟩ = some (.int .i64 yk) := by rw [cell_of_heap halY]; rfl
              have z1 : wY.cell? ⟨yb0, 1, none⟩ = some (.int .i64 yh) := by rw [cell_of_heap halY]; rfl
              have z2 : wY.cell? ⟨yb0, 2, none⟩ = some (.int .i64 yw) := by rw [cell_of_heap halY]; rfl
              have z3 : wY.cell? ⟨yb0, 3, none⟩ = some (.int .i64 ya) := by rw [cell_of_heap halY]; rfl
              have z4 : wY.cell? ⟨yb0, 4, none⟩ = some (.int .i64 yb) := by rw [cell_of_heap halY]; rfl
              have z5 : wY.cell? ⟨yb0, 5, none⟩ = some (.int .i64 yv) := by rw [cell_of_heap halY]; rfl
              have o1 : wY.cell? ⟨ob, 1, none⟩ = some (.int .i64 kind) := by rw [cell_of_heap eO]; rfl
              have o2 : wY.cell? ⟨ob, 2, none⟩ = some (.int .i64 head) := by rw [cell_of_heap eO]; rfl
              have o3 : wY.cell? ⟨ob, 3, none⟩ = some (.int .i64 who) := by rw [cell_of_heap eO]; rfl
              have o4 : wY.cell? ⟨ob, 4, none⟩ = some (.int .i64 a) := by rw [cell_of_heap eO]; rfl
              have o5 : wY.cell? ⟨ob, 5, none⟩ = some (.int .i64 b) := by rw [cell_of_heap eO]; rfl
              have o6 : wY.cell? ⟨ob, 6, none⟩ = some (.int .i64 via) := by rw [cell_of_heap eO]; rfl
              obtain ⟨eb, heb⟩ : ∃ eb, decide ((⟨yk, yh, yw, ya, yb, yv⟩ : Rl) = ⟨kind, head, who, a, b, via⟩) = eb := ⟨_, rfl⟩
              have heq := fun W => rule_eq6 yk yh yw ya yb yv kind head who a b via W
              rw [heb] at heq
              have HEB := Lib.hid heb
              have HKY := Lib.hid hkXY
              clear heb eO halY hkXY
              cases eb with
              | true =>
                have HN : Hid (AtI rs ⟨kind, head, who, a, b, via⟩ (q + 1) q ∧ Keeps (fun _ => False) wX wY) := ⟨AtI.hit (by rw [← of_decide_eq_true HEB.out]; exact HYY.out), HKY.out⟩
                clear HEB HKY HAQ HYY
                go_wp2_with fail
                go_roundg (rn - (q + 1))
                case measure => omega
                case rel => exact ⟨q + 1, q, by omega, rfl, rfl, by go_num, HN⟩
              | false =>
                have HN : Hid (AtI rs ⟨kind, head, who, a, b, via⟩ (q + 1) x ∧ Keeps (fun _ => False) wX wY) := ⟨HAQ.out.miss HYY.out (of_decide_eq_false HEB.out), HKY.out⟩
                clear HEB HKY HAQ HYY
                go_wp2_with fail
                go_roundg (rn - (q + 1))
                case measure => omega
                case rel => exact ⟨q + 1, x, by omega, rfl, rfl, by go_num, HN⟩
            · have hqI : ¬ (q : Int) < (rn : Int) := by omega
              have HAT : Hid ((x = -1 ∧ ⟨kind, head, who, a, b, via⟩ ∉ rs) ∨ ∃ p : Nat, p < rn ∧ x = p ∧ rs[p]? = some ⟨kind, head, who, a, b, via⟩) := by
                have h1 := HQ.out.1
                rw [show q = rs.length by rw [HRN.out]; omega] at h1
                have h2 := h1.done
                rw [HRN.out] at h2
                exact h2
              have HS2 := Lib.hid (HS1.out.quiet HQ.out.2)
              have hBR : wr.heap[ob]? = some (.cells #[.int .u64 kd, .int .i64 kind, .int .i64 head, .int .i64 who, .int .i64 a, .int .i64 b, .int .i64 via] 31 (0, 0)) := (HQ.out.2.block _ (lt_of_heap HBO.out) (fun x => x)).trans HBO.out
              have HB2 := Lib.hid hBR
              obtain ⟨ax, cx, hvx, _, _, hev⟩ := HS2.out.eval HS2.out.st.is.right HRN.out (by omega) (by omega) (by omega) HNE.out
              simp only [Value.slice.injEq] at hvx
              obtain ⟨rfl, -, rfl⟩ := hvx
              have HEV := Lib.hid hev
              clear HQ hBR hev HS1 HBO HROW
              go_upto_region 18 with (go_at_call 10; refine HEV.out.mono ?_; rintro e wE ⟨mb, rfl, hmm⟩)
              have HSE := Lib.hid (HS2.out.quiet hmm.out.1)
              have hBE : wE.heap[ob]? = some (.cells #[.int .u64 kd, .int .i64 kind, .int .i64 head, .int .i64 who, .int .i64 a, .int .i64 b, .int .i64 via] 31 (0, 0)) := (hmm.out.1.block _ (lt_of_heap HB2.out) (fun x => x)).trans HB2.out
              have HBE := Lib.hid hBE
              obtain ⟨am, cm, rbm, F, hRM, hF⟩ := hmm.out.2
              have HRM := Lib.hid hRM
              have HF := Lib.hid hF
              have o0 : wE.cell? ⟨ob, 0, none⟩ = some (.int .u64 kd) := by rw [cell_of_heap hBE]; rfl
              have o1 : wE.cell? ⟨ob, 1, none⟩ = some (.int .i64 kind) := by rw [cell_of_heap hBE]; rfl
              have o2 : wE.cell? ⟨ob, 2, none⟩ = some (.int .i64 head) := by rw [cell_of_heap hBE]; rfl
              have o3 : wE.cell? ⟨ob, 3, none⟩ = some (.int .i64 who) := by rw [cell_of_heap hBE]; rfl
              have o4 : wE.cell? ⟨ob, 4, none⟩ = some (.int .i64 a) := by rw [cell_of_heap hBE]; rfl
              have o5 : wE.cell? ⟨ob, 5, none⟩ = some (.int .i64 b) := by rw [cell_of_heap hBE]; rfl
              have o6 : wE.cell? ⟨ob, 6, none⟩ = some (.int .i64 via) := by rw [cell_of_heap hBE]; rfl
              clear hmm hRM hF hBE HB2 HS2 HEV
              go_upto_if 71 with fail
              go_cut [6, 15, 16, 17, 18] (fun rv2 uv wv c1 c2 wx => ∃ (rs2 : List Rl) (Fp2 : Nat → Prop) (ans : List (Nat × Nat)) (cd : Int), c1 = .int .i64 cd ∧ c2 = .int .i64 cd ∧ Hid (PlS W0 wx lb P K rs2 Fp2 rv2 rs2 ∧ rs2.length ≤ j + 1 ∧ ReadsP wx uv ans ∧ ReadsP wx wv ans ∧ ans.length ≤ 1000000))
              case first =>
                clear HOS HKD HOL
                have HKN : Hid (∀ k, Fp k → ∃ cur t, wE.heap[k]? = some (.cells cur t (0, 0)) ∧ LiveKind t) := fun k hk => HSE.out.st.is.kind hk
                have hl900 : rs.length ≤ 900 := by rw [HRN.out]; omega
                cases bb with
                | true =>
                  have HA := Lib.hid (HSE.out.st.add HT0.out hl900 ⟨kind, head, who, a, b, via⟩)
                  go_upto_region 24 with (go_at_call 8; refine HA.out.mono ?_; rintro e wA ⟨u, code, rs', ans, Fp', rfl, hp⟩)
                  clear o0 o1 o2 o3 o4 o5 o6
                  have HSA := Lib.hid (HSE.out.moved hp.out.1 hp.out.2.1)
                  have HRA := Lib.hid (HRM.out.apart hp.out.2.1.keeps HKN.out)
                  have hBA : wA.heap[ob]? = some (.cells #[.int .u64 kd, .int .i64 kind, .int .i64 head, .int .i64 who, .int .i64 a, .int .i64 b, .int .i64 via] 31 (0, 0)) := (hp.out.2.1.keeps.block _ (lt_of_heap HBE.out) (not_kind HKN.out HBE.out (by unfold LiveKind; decide))).trans HBE.out
                  have HBA := Lib.hid hBA
                  have a1 : wA.cell? ⟨ob, 1, none⟩ = some (.int .i64 kind) := by rw [cell_of_heap hBA]; rfl
                  have a2 : wA.cell? ⟨ob, 2, none⟩ = some (.int .i64 head) := by rw [cell_of_heap hBA]; rfl
                  have a3 : wA.cell? ⟨ob, 3, none⟩ = some (.int .i64 who) := by rw [cell_of_heap hBA]; rfl
                  have a4 : wA.cell? ⟨ob, 4, none⟩ = some (.int .i64 a) := by rw [cell_of_heap hBA]; rfl
                  have a5 : wA.cell? ⟨ob, 5, none⟩ = some (.int .i64 b) := by rw [cell_of_heap hBA]; rfl
                  have a6 : wA.cell? ⟨ob, 6, none⟩ = some (.int .i64 via) := by rw [cell_of_heap hBA]; rfl
                  have HUA := Lib.hid hp.out.2.2.1
                  have HANS := Lib.hid hp.out.2.2.2.2
                  obtain ⟨br, hbr⟩ : ∃ br, rightB P K ⟨kind, head, who, a, b, via⟩ = br := ⟨_, rfl⟩
                  have HRR : Hid (Calls Tryd.prog 15 #[.int .i64 P, .int .i64 K, .agg #[.int .i64 kind, .int .i64 head, .int .i64 who, .int .i64 a, .int .i64 b, .int .i64 via]] wA (RightPost br wA)) := by rw [← hbr]; exact rr_spec wA (P : Int) (K : Int) ⟨kind, head, who, a, b, via⟩
                  have HBR := Lib.hid hbr
                  clear HA hp HSE HRM HBE HKN hBA hbr
                  cases br with
                  | false =>
                    obtain ⟨e1, rfl, rfl⟩ := HANS.out.bad HBR.out
                    subst e1
                    have HN : Hid (∀ wF, Keeps (fun _ => False) wA wF → PlS W0 wF lb P K rs' Fp' (.slice ar rn cr) rs' ∧ rs'.length ≤ j + 1 ∧ ReadsP wF u [] ∧ ReadsP wF (.slice none 0 0) [] ∧ ([] : List (Nat × Nat)).length ≤ 1000000) := fun wF hk => ⟨HSA.out.quiet hk, by rw [HRN.out]; omega, HUA.out.keeps hk (fun _ _ x => x), ⟨none, 0, rfl, Nat.le_refl _, fun h => absurd h (Nat.lt_irrefl _)⟩, Nat.zero_le _⟩
                    clear HANS HBR HSA HRA HBA HUA HAT
                    go_wp2_with (go_at_call 15; refine HRR.out.mono ?_; rintro e wF ⟨rfl, hbF⟩)
                    have HN2 := Lib.hid (HN.out wF (Keeps.of_below hbF (Nat.le_refl _)))
                    clear HN hbF HRR
                    go_meet
                    case rel => exact ⟨_, _, _, _, rfl, rfl, HN2⟩
                  | true =>
                    rcases HAT.out with ⟨rfl, hnm⟩ | ⟨p, hp, rfl, hpr⟩
                    · obtain ⟨rfl, hdf, rfl⟩ := HANS.out.new HBR.out hnm
                      have HDF := Lib.hid hdf
                      clear HANS HBR hdf hnm HAT
                      go_upto_region 22 with (go_at_call 15; refine HRR.out.mono ?_; rintro e wF ⟨rfl, hbF⟩)
                      have hkF := Keeps.of_below (S := fun _ => False) hbF (Nat.le_refl _)
                      have HSF := Lib.hid (HSA.out.quiet hkF)
                      have HRF := Lib.hid (HRA.out.keeps hkF)
                      have HUF := Lib.hid (HUA.out.keeps hkF (fun _ _ x => x))
                      have hBF := (hkF.block _ (lt_of_heap HBA.out) (fun x => x)).trans HBA.out
                      have HBF := Lib.hid hBF
                      clear a1 a2 a3 a4 a5 a6 HSA HRA HUA HBA HRR hbF hkF hBF
                      have HOB : Hid (∀ w', Keeps (fun _ => False) wF w' → (fun w' : World => w'.cell? ⟨ob, 1, none⟩ = some (.int .i64 kind) ∧ w'.cell? ⟨ob, 2, none⟩ = some (.int .i64 head) ∧ w'.cell? ⟨ob, 3, none⟩ = some (.int .i64 who) ∧ w'.cell? ⟨ob, 4, none⟩ = some (.int .i64 a) ∧ w'.cell? ⟨ob, 5, none⟩ = some (.int .i64 b) ∧ w'.cell? ⟨ob, 6, none⟩ = some (.int .i64 via)) w') := fun w' hk => by
                        have e := (hk.block _ (lt_of_heap HBF.out) (fun x => x)).trans HBF.out
                        refine ⟨?_, ?_, ?_, ?_, ?_, ?_⟩ <;> (rw [cell_of_heap e]; rfl)
                      obtain ⟨ax, cx, hvx, hcx, _, hrow⟩ := TailRow.rules HSF.out.row
                      rw [HRN.out] at hvx hcx
                      simp only [Value.slice.injEq] at hvx
                      obtain ⟨rfl, -, rfl⟩ := hvx
                      have HRW : Hid (∀ w', Keeps (fun _ => False) wF w' → RuleRow w' ar rs) := fun w' hk => hrow.keeps (hk.below (Nat.le_refl _) (fun _ _ x => x)) (fun _ _ _ h => h)
                      have hB1 := HOB.out wF.drew ((Keeps.refl _ _).drew)
                      clear hrow HBF
                      go_cut [6] (fun rv2 wx => Hid (Ap wF wx rv2 (rs ++ [⟨kind, head, who, a, b, via⟩])))
                      case first =>
                        refine wp_region_noPanic ?_
                        refine wp_region_held_drew (S := (fun w' : World => w'.cell? ⟨ob, 1, none⟩ = some (.int .i64 kind) ∧ w'.cell? ⟨ob, 2, none⟩ = some (.int .i64 head) ∧ w'.cell? ⟨ob, 3, none⟩ = some (.int .i64 who) ∧ w'.cell? ⟨ob, 4, none⟩ = some (.int .i64 a) ∧ w'.cell? ⟨ob, 5, none⟩ = some (.int .i64 b) ∧ w'.cell? ⟨ob, 6, none⟩ = some (.int .i64 via))) (by kernel_rfl) hB1 (fun hHeld => ?_)
                        refine wpAnyH_take_at (i := 1) (v := ?v1x9) rfl (by kernel_rfl) (by kernel_rfl) (by kernel_rfl) (fun _ _ _ h => h) (Or.inl ⟨by rfl, ?y1x9⟩) hHeld ?r1x9
                        case y1x9 => (intro w hSw; (try dsimp only at hSw); go_simp; first | done | with_reducible rfl)
                        (try simp only [Act.put, List.setIfInBounds_toArray, List.set_cons_zero, List.set_cons_succ])
                        refine wpAnyH_take_at (i := 3) (v := ?v3x10) rfl (by kernel_rfl) (by kernel_rfl) (by kernel_rfl) (fun _ _ _ h => h) (Or.inl ⟨by rfl, ?y3x10⟩) hHeld ?r3x10
                        case y3x10 => (intro w hSw; (try dsimp only at hSw); go_simp; first | done | with_reducible rfl)
                        (try simp only [Act.put, List.setIfInBounds_toArray, List.set_cons_zero, List.set_cons_succ])
                        refine wpAnyH_take_at (i := 4) (v := ?v4x11) rfl (by kernel_rfl) (by kernel_rfl) (by kernel_rfl) (fun _ _ _ h => h) (Or.inl ⟨by rfl, ?y4x11⟩) hHeld ?r4x11
                        case y4x11 => (intro w hSw; (try dsimp only at hSw); go_simp; first | done | with_reducible rfl)
                        (try simp only [Act.put, List.setIfInBounds_toArray, List.set_cons_zero, List.set_cons_succ])
                        have HKD0 : Keeps (fun _ => False) wF wF.drew := (Keeps.refl _ _).drew
                        obtain ⟨wD, hwD⟩ : ∃ x, wF.drew = x := ⟨_, rfl⟩
                        simp only [hwD] at hHeld HKD0 ⊢
                        clear hwD
                        have HKD := Lib.hid HKD0
                        clear HKD0
                        refine wpAnyH_two (i := 0) (j := 5) (by kernel_rfl) rfl rfl (fun KK hK => ?p0X) (fun KK hK => ?p5X)
                        case p0X =>
                          go_simp
                          have HEA : Hid (Ap wF (wD.alloc (.cells #[] 29)) (.slice (some ⟨wD.heap.size, 0, none⟩) 0 0) []) := Ap.start HKD.out
                          refine hK.out _ _ ?sEA (fun hHeld => ?_)
                          case sEA => exact HOB.out _ HEA.out.kp
                          clear hK KK
                          obtain ⟨eA, heA⟩ : ∃ e, wD.heap.size = e := ⟨_, rfl⟩
                          obtain ⟨wEA, hwEA⟩ : ∃ x, wD.alloc (.cells #[] 29) = x := ⟨_, rfl⟩
                          simp only [hwEA] at HEA hHeld ⊢
                          (try simp only [heA] at HEA ⊢)
                          clear hwEA
                          (try simp only [Act.put, List.setIfInBounds_toArray, List.set_cons_zero, List.set_cons_succ])
                          refine wpAnyH_two (i := 2) (j := 5) (by kernel_rfl) rfl rfl (fun KK hK => ?p2Y) (fun KK hK => ?p5Y)
                          case p2Y =>
                            refine step_append_rules rfl (.tmp 79) (.tmp 80) rfl (.slice (some ⟨eA, 0, none⟩) 0 0) [] (by simp [Act.eval, Act.put]) HEA.out.row ar cr rn rs HRN.out (by simp [Act.eval, Act.put]) (HRW.out _ HEA.out.kp) rn (by simpa using HRN.out) (by omega) ?_
                            intro aoA1 capA1 wAA1 hownA1 hgrowA1 hfpA1
                            have HAA1 : Hid (Ap wF wAA1 (.slice aoA1 rn capA1) ([] ++ rs)) := HEA.out.grow hownA1 hgrowA1 hfpA1
                            refine hK.out _ _ ?sAA1 (fun hHeld => ?_)
                            case sAA1 => exact HOB.out _ HAA1.out.kp
                            clear hK KK
                            (try simp only [Act.put, List.setIfInBounds_toArray, List.set_cons_zero, List.set_cons_succ])
                            refine wpAnyH_one (i := 5) (by kernel_rfl) rfl (fun KK hK => ?_)
                            go_simp
                            have halA1 := (MapKept.heap_alloc wAA1 (.cells #[.int .i64 kind, .int .i64 head, .int .i64 who, .int .i64 a, .int .i64 b, .int .i64 via] 29)).1
                            have kBA1 : Keeps (fun _ => False) wAA1 (wAA1.alloc (.cells #[.int .i64 kind, .int .i64 head, .int .i64 who, .int .i64 a, .int .i64 b, .int .i64 via] 29)) := (Keeps.refl _ _).alloc _
                            refine hK.out _ _ ?sBA1 (fun hHeld => ?_)
                            case sBA1 => exact HOB.out _ (HAA1.out.kp.trans kBA1)
                            clear hK KK
                            obtain ⟨bA1, hbA1⟩ : ∃ b, wAA1.heap.size = b := ⟨_, rfl⟩
                            obtain ⟨wBA1, hwBA1⟩ : ∃ x, wAA1.alloc (.cells #[.int .i64 kind, .int .i64 head, .int .i64 who, .int .i64 a, .int .i64 b, .int .i64 via] 29) = x := ⟨_, rfl⟩
                            simp only [hwBA1] at halA1 kBA1 hHeld ⊢
                            (try simp only [hbA1] at halA1 ⊢)
                            clear hwBA1
                            (try simp only [Act.put, List.setIfInBounds_toArray, List.set_cons_zero, List.set_cons_succ])
                            have HQA1 := Lib.hid (HAA1.out.quiet kBA1)
                            refine wpAnyH_one (i := 6) (by kernel_rfl) rfl (fun KK hK => ?_)
                            refine step_append_rules rfl (.tmp 81) (.tmp 84) rfl (.slice aoA1 rn capA1) ([] ++ rs) (by simp [Act.eval, Act.put]) HQA1.out.row (some ⟨bA1, 0, none⟩) 1 1 [⟨kind, head, who, a, b, via⟩] rfl (by simp [Act.eval, Act.put]) (one_row halA1) (rn + 1) (by simp [HRN.out]) (by omega) ?_
                            intro aoA1z capA1z wAA1z hownA1z hgrowA1z hfpA1z
                            have HAA1z : Hid (Ap wF wAA1z (.slice aoA1z (rn + 1) capA1z) (([] ++ rs) ++ [⟨kind, head, who, a, b, via⟩])) := HQA1.out.grow hownA1z hgrowA1z hfpA1z
                            refine hK.out _ _ ?sAA1z (fun hHeld => ?_)
                            case sAA1z => exact HOB.out _ HAA1z.out.kp
                            clear hK KK
                            (try simp only [Act.put, List.setIfInBounds_toArray, List.set_cons_zero, List.set_cons_succ])
                            refine wpAnyH_take_at (i := 7) (v := ?v7x12) rfl (by kernel_rfl) (by kernel_rfl) (by kernel_rfl) (fun _ _ _ h => h) (Or.inl ⟨by rfl, ?y7x12⟩) hHeld ?r7x12
                            case y7x12 => (intro w hSw; (try dsimp only at hSw); go_simp; first | done | with_reducible rfl)
                            (try simp only [Act.put, List.setIfInBounds_toArray, List.set_cons_zero, List.set_cons_succ])
                            refine wpAnyH_done (by kernel_rfl) ?_ _
                            refine NoPanic.normal ?_
                            have HFA1z : Hid (Ap wF wAA1z (.slice aoA1z (rn + 1) capA1z) (rs ++ [⟨kind, head, who, a, b, via⟩])) := HAA1z.out
                            clear hHeld
                            go_wp2_with fail
                            go_meet
                            case rel => exact HFA1z
                          case p5Y =>
                            go_simp
                            have halA2 := (MapKept.heap_alloc wEA (.cells #[.int .i64 kind, .int .i64 head, .int .i64 who, .int .i64 a, .int .i64 b, .int .i64 via] 29)).1
                            have kBA2 : Keeps (fun _ => False) wEA (wEA.alloc (.cells #[.int .i64 kind, .int .i64 head, .int .i64 who, .int .i64 a, .int .i64 b, .int .i64 via] 29)) := (Keeps.refl _ _).alloc _
                            refine hK.out _ _ ?sBA2 (fun hHeld => ?_)
                            case sBA2 => exact HOB.out _ (HEA.out.kp.trans kBA2)
                            clear hK KK
                            obtain ⟨bA2, hbA2⟩ : ∃ b, wEA.heap.size = b := ⟨_, rfl⟩
                            obtain ⟨wBA2, hwBA2⟩ : ∃ x, wEA.alloc (.cells #[.int .i64 kind, .int .i64 head, .int .i64 who, .int .i64 a, .int .i64 b, .int .i64 via] 29) = x := ⟨_, rfl⟩
                            simp only [hwBA2] at halA2 kBA2 hHeld ⊢
                            (try simp only [hbA2] at halA2 ⊢)
                            clear hwBA2
                            (try simp only [Act.put, List.setIfInBounds_toArray, List.set_cons_zero, List.set_cons_succ])
                            have HQA2 := Lib.hid (HEA.out.quiet kBA2)
                            have hneA2 : bA2 ≠ eA := fun e => by have := HEA.out.lt (k := eA) rfl; omega
                            refine wpAnyH_one (i := 2) (by kernel_rfl) rfl (fun KK hK => ?_)
                            refine step_append_rules rfl (.tmp 79) (.tmp 80) rfl (.slice (some ⟨eA, 0, none⟩) 0 0) [] (by simp [Act.eval, Act.put]) HQA2.out.row ar cr rn rs HRN.out (by simp [Act.eval, Act.put]) (HRW.out _ HQA2.out.kp) rn (by simpa using HRN.out) (by omega) ?_
                            intro aoA2 capA2 wAA2 hownA2 hgrowA2 hfpA2
                            have HAA2 : Hid (Ap wF wAA2 (.slice aoA2 rn capA2) ([] ++ rs)) := HQA2.out.grow hownA2 hgrowA2 hfpA2
                            refine hK.out _ _ ?sAA2 (fun hHeld => ?_)
                            case sAA2 => exact HOB.out _ HAA2.out.kp
                            clear hK KK
                            (try simp only [Act.put, List.setIfInBounds_toArray, List.set_cons_zero, List.set_cons_succ])
                            have hal2A2 := ((keeps_grown hgrowA2).block _ (lt_of_heap halA2) (fun e => by simp only [Value.ownBlock, Option.some.injEq] at e; omega)).trans halA2
                            refine wpAnyH_one (i := 6) (by kernel_rfl) rfl (fun KK hK => ?_)
                            refine step_append_rules rfl (.tmp 81) (.tmp 84) rfl (.slice aoA2 rn capA2) ([] ++ rs) (by simp [Act.eval, Act.put]) HAA2.out.row (some ⟨bA2, 0, none⟩) 1 1 [⟨kind, head, who, a, b, via⟩] rfl (by simp [Act.eval, Act.put]) (one_row hal2A2) (rn + 1) (by simp [HRN.out]) (by omega) ?_
                            intro aoA2z capA2z wAA2z hownA2z hgrowA2z hfpA2z
                            have HAA2z : Hid (Ap wF wAA2z (.slice aoA2z (rn + 1) capA2z) (([] ++ rs) ++ [⟨kind, head, who, a, b, via⟩])) := HAA2.out.grow hownA2z hgrowA2z hfpA2z
                            refine hK.out _ _ ?sAA2z (fun hHeld => ?_)
                            case sAA2z => exact HOB.out _ HAA2z.out.kp
                            clear hK KK
                            (try simp only [Act.put, List.setIfInBounds_toArray, List.set_cons_zero, List.set_cons_succ])
                            refine wpAnyH_take_at (i := 7) (v := ?v7x13) rfl (by kernel_rfl) (by kernel_rfl) (by kernel_rfl) (fun _ _ _ h => h) (Or.inl ⟨by rfl, ?y7x13⟩) hHeld ?r7x13
                            case y7x13 => (intro w hSw; (try dsimp only at hSw); go_simp; first | done | with_reducible rfl)
                            (try simp only [Act.put, List.setIfInBounds_toArray, List.set_cons_zero, List.set_cons_succ])
                            refine wpAnyH_done (by kernel_rfl) ?_ _
                            refine NoPanic.normal ?_
                            have HFA2z : Hid (Ap wF wAA2z (.slice aoA2z (rn + 1) capA2z) (rs ++ [⟨kind, head, who, a, b, via⟩])) := HAA2z.out
                            clear hHeld
                            go_wp2_with fail
                            go_meet
                            case rel => exact HFA2z
                        case p5X =>
                          go_simp
                          have halB := (MapKept.heap_alloc wD (.cells #[.int .i64 kind, .int .i64 head, .int .i64 who, .int .i64 a, .int .i64 b, .int .i64 via] 29)).1
                          have kBB : Keeps (fun _ => False) wD (wD.alloc (.cells #[.int .i64 kind, .int .i64 head, .int .i64 who, .int .i64 a, .int .i64 b, .int .i64 via] 29)) := (Keeps.refl _ _).alloc _
                          refine hK.out _ _ ?sBB (fun hHeld => ?_)
                          case sBB => exact HOB.out _ (HKD.out.trans kBB)
                          clear hK KK
                          obtain ⟨bB, hbB⟩ : ∃ b, wD.heap.size = b := ⟨_, rfl⟩
                          obtain ⟨wBB, hwBB⟩ : ∃ x, wD.alloc (.cells #[.int .i64 kind, .int .i64 head, .int .i64 who, .int .i64 a, .int .i64 b, .int .i64 via] 29) = x := ⟨_, rfl⟩
                          simp only [hwBB] at halB kBB hHeld ⊢
                          (try simp only [hbB] at halB ⊢)
                          clear hwBB
                          (try simp only [Act.put, List.setIfInBounds_toArray, List.set_cons_zero, List.set_cons_succ])
                          have HKB : Hid (Keeps (fun _ => False) wF wBB) := HKD.out.trans kBB
                          refine wpAnyH_one (i := 0) (by kernel_rfl) rfl (fun KK hK => ?_)
                          go_simp
                          have HEB : Hid (Ap wF (wBB.alloc (.cells #[] 29)) (.slice (some ⟨wBB.heap.size, 0, none⟩) 0 0) []) := Ap.start HKB.out
                          refine hK.out _ _ ?sEB (fun hHeld => ?_)
                          case sEB => exact HOB.out _ HEB.out.kp
                          clear hK KK
                          obtain ⟨eB, heB⟩ : ∃ e, wBB.heap.size = e := ⟨_, rfl⟩
                          obtain ⟨wEB, hwEB⟩ : ∃ x, wBB.alloc (.cells #[] 29) = x := ⟨_, rfl⟩
                          simp only [hwEB] at HEB hHeld ⊢
                          (try simp only [heB] at HEB ⊢)
                          have kEB : Keeps (fun _ => False) wBB wEB := by rw [← hwEB]; exact (Keeps.refl _ _).alloc _
                          clear hwEB
                          (try simp only [Act.put, List.setIfInBounds_toArray, List.set_cons_zero, List.set_cons_succ])
                          have halB2 := halB
                          have hneB : bB ≠ eB := fun e => by have := lt_of_heap halB; omega
                          have hal3B : wEB.heap[bB]? = some _ := ((kEB).block _ (lt_of_heap halB) (fun x => x)).trans halB
                          refine wpAnyH_one (i := 2) (by kernel_rfl) rfl (fun KK hK => ?_)
                          refine step_append_rules rfl (.tmp 79) (.tmp 80) rfl (.slice (some ⟨eB, 0, none⟩) 0 0) [] (by simp [Act.eval, Act.put]) HEB.out.row ar cr rn rs HRN.out (by simp [Act.eval, Act.put]) (HRW.out _ HEB.out.kp) rn (by simpa using HRN.out) (by omega) ?_
                          intro aoB2 capB2 wAB2 hownB2 hgrowB2 hfpB2
                          have HAB2 : Hid (Ap wF wAB2 (.slice aoB2 rn capB2) ([] ++ rs)) := HEB.out.grow hownB2 hgrowB2 hfpB2
                          refine hK.out _ _ ?sAB2 (fun hHeld => ?_)
                          case sAB2 => exact HOB.out _ HAB2.out.kp
                          clear hK KK
                          (try simp only [Act.put, List.setIfInBounds_toArray, List.set_cons_zero, List.set_cons_succ])
                          have hal4B := ((keeps_grown hgrowB2).block _ (lt_of_heap hal3B) (fun e => by simp only [Value.ownBlock, Option.some.injEq] at e; omega)).trans hal3B
                          refine wpAnyH_one (i := 6) (by kernel_rfl) rfl (fun KK hK => ?_)
                          refine step_append_rules rfl (.tmp 81) (.tmp 84) rfl (.slice aoB2 rn capB2) ([] ++ rs) (by simp [Act.eval, Act.put]) HAB2.out.row (some ⟨bB, 0, none⟩) 1 1 [⟨kind, head, who, a, b, via⟩] rfl (by simp [Act.eval, Act.put]) (one_row hal4B) (rn + 1) (by simp [HRN.out]) (by omega) ?_
                          intro aoBz capBz wABz hownBz hgrowBz hfpBz
                          have HABz : Hid (Ap wF wABz (.slice aoBz (rn + 1) capBz) (([] ++ rs) ++ [⟨kind, head, who, a, b, via⟩])) := HAB2.out.grow hownBz hgrowBz hfpBz
                          refine hK.out _ _ ?sABz (fun hHeld => ?_)
                          case sABz => exact HOB.out _ HABz.out.kp
                          clear hK KK
                          (try simp only [Act.put, List.setIfInBounds_toArray, List.set_cons_zero, List.set_cons_succ])
                          refine wpAnyH_take_at (i := 7) (v := ?v7x14) rfl (by kernel_rfl) (by kernel_rfl) (by kernel_rfl) (fun _ _ _ h => h) (Or.inl ⟨by rfl, ?y7x14⟩) hHeld ?r7x14
                          case y7x14 => (intro w hSw; (try dsimp only at hSw); go_simp; first | done | with_reducible rfl)
                          (try simp only [Act.put, List.setIfInBounds_toArray, List.set_cons_zero, List.set_cons_succ])
                          refine wpAnyH_done (by kernel_rfl) ?_ _
                          refine NoPanic.normal ?_
                          have HFBz : Hid (Ap wF wABz (.slice aoBz (rn + 1) capBz) (rs ++ [⟨kind, head, who, a, b, via⟩])) := HABz.out
                          clear hHeld
                          go_wp2_with fail
                          go_meet
                          case rel => exact HFBz
                      case rest =>
                        have HSC := Lib.hid (HSF.out.newRow hcut.out.kp hcut.out.row hcut.out.own)
                        have hkC := hcut.out.kp
                        clear hcut
                        obtain ⟨rs2, hrs2⟩ : ∃ x, rs ++ [⟨kind, head, who, a, b, via⟩] = x := ⟨_, rfl⟩
                        have HR2 := Lib.hid hrs2
                        have hl2 : rs2.length = rn + 1 := by rw [← hrs2]; rw [List.length_append, HRN.out]; rfl
                        rw [hrs2] at HSC HDF
                        obtain ⟨ar2, cr2, hv2, _, _, hev2⟩ := HSC.out.eval HSC.out.st.is.right hl2 (by omega) (by omega) (by omega) HNE.out
                        subst hv2
                        have HEV2 := Lib.hid hev2
                        have HRC := Lib.hid (HRF.out.keeps hkC)
                        have HUC := Lib.hid (HUF.out.keeps hkC (fun _ _ x => x))
                        have HL2 := Lib.hid hl2
                        clear hev2 hkC hrs2 hl2
                        go_wp2_with fail
                        refine HEV2.out.mono ?_
                        rintro e wG ⟨mb2, rfl, hm2⟩
                        obtain ⟨am2, cm2, rbm2, F2, hR2, hF2⟩ := hm2.out.2
                        have HSG := Lib.hid (HSC.out.quiet hm2.out.1)
                        have HUG := Lib.hid (HUC.out.keeps hm2.out.1 (fun _ _ x => x))
                        have HPA := Lib.hid (pairs_spec hR2 (HRC.out.keeps hm2.out.1) (by omega) (by omega))
                        have HWA := Lib.hid (want_add HNE.out HDF.out HF.out hF2)
                        clear HEV2 hm2 hR2 hF2 HSC HUC HRC
                        go_wp2_with fail
                        refine HPA.out.mono ?_
                        rintro e wH ⟨pv, rfl, hpv⟩
                        have HN2 : Hid (PlS W0 wH lb P K rs2 Fp' (.slice ar2 (rn + 1) cr2) rs2 ∧ rs2.length ≤ j + 1 ∧ ReadsP wH u ans ∧ ReadsP wH pv ans ∧ (ans : List (Nat × Nat)).length ≤ 1000000) := by
                          have hw := HWA.out
                          refine ⟨HSG.out.quiet hpv.out.2, by rw [HL2.out]; omega, HUG.out.keeps hpv.out.2 (fun _ _ x => x), by rw [hw]; exact hpv.out.1.reads, ?_⟩
                          rw [hw]
                          have h1 := diffTo_len F2 F P N
                          have h2 : N * P ≤ 40 * 8 := Nat.mul_le_mul hN40 hPl
                          omega
                        clear HPA HWA hpv HSG HUG HDF
                        go_wp2_with fail
                        go_meet
                        case rel => exact ⟨rs2, _, ans, _, rfl, rfl, HN2⟩
                    · skip
                      have hx0 : (0 : Int) ≤ (p : Int) := by omega
                      obtain ⟨e1, rfl, rfl⟩ := HANS.out.old HBR.out (List.mem_of_getElem? hpr)
                      subst e1
                      have HN : Hid (∀ wF, Keeps (fun _ => False) wA wF → PlS W0 wF lb P K rs' Fp' (.slice ar rn cr) rs' ∧ rs'.length ≤ j + 1 ∧ ReadsP wF u [] ∧ ReadsP wF (.slice none 0 0) [] ∧ ([] : List (Nat × Nat)).length ≤ 1000000) := fun wF hk => ⟨HSA.out.quiet hk, by rw [HRN.out]; omega, HUA.out.keeps hk (fun _ _ x => x), ⟨none, 0, rfl, Nat.le_refl _, fun h => absurd h (Nat.lt_irrefl _)⟩, Nat.zero_le _⟩
                      clear HANS HBR HSA HRA HBA HUA HAT hpr
                      go_wp2_with (go_at_call 15; refine HRR.out.mono ?_; rintro e wF ⟨rfl, hbF⟩)
                      have HN2 := Lib.hid (HN.out wF (Keeps.of_below hbF (Nat.le_refl _)))
                      clear HN hbF HRR
                      go_meet
                      case rel => exact ⟨_, _, _, _, rfl, rfl, HN2⟩
                | false =>
                  have HA := Lib.hid (HSE.out.st.drop HT0.out hl900 ⟨kind, head, who, a, b, via⟩)
                  have HND : Hid rs.Nodup := HSE.out.st.is.nodup
                  go_upto_region 29 with (go_at_call 9; refine HA.out.mono ?_; rintro e wA ⟨u, code, rs', ans, Fp', rfl, hp⟩)
                  clear o0 o1 o2 o3 o4 o5 o6
                  have HSA := Lib.hid (HSE.out.moved hp.out.1 hp.out.2.1)
                  have HRA := Lib.hid (HRM.out.apart hp.out.2.1.keeps HKN.out)
                  have hBA : wA.heap[ob]? = some (.cells #[.int .u64 kd, .int .i64 kind, .int .i64 head, .int .i64 who, .int .i64 a, .int .i64 b, .int .i64 via] 31 (0, 0)) := (hp.out.2.1.keeps.block _ (lt_of_heap HBE.out) (not_kind HKN.out HBE.out (by unfold LiveKind; decide))).trans HBE.out
                  have HBA := Lib.hid hBA
                  have HUA := Lib.hid hp.out.2.2.1
                  have HANS := Lib.hid hp.out.2.2.2.2
                  clear HA hp HSE HRM HBE HKN hBA
                  rcases HAT.out with ⟨rfl, hnm⟩ | ⟨p, hp, rfl, hpr⟩
                  · obtain ⟨e1, rfl, rfl⟩ := HANS.out.none hnm
                    subst e1
                    have HN2 : Hid (PlS W0 wA lb P K rs' Fp' (.slice ar rn cr) rs' ∧ rs'.length ≤ j + 1 ∧ ReadsP wA u [] ∧ ReadsP wA (.slice none 0 0) [] ∧ ([] : List (Nat × Nat)).length ≤ 1000000) := ⟨HSA.out, by rw [HRN.out]; omega, HUA.out, ⟨none, 0, rfl, Nat.le_refl _, fun h => absurd h (Nat.lt_irrefl _)⟩, Nat.zero_le _⟩
                    clear HANS HSA HRA HBA HUA HAT hnm
                    go_wp2_with fail
                    go_meet
                    case rel => exact ⟨_, _, _, _, rfl, rfl, HN2⟩
                  · have hx0 : ¬ ((p : Int) < 0) := by omega
                    obtain ⟨e1, hdf, rfl⟩ := HANS.out.at HND.out hpr
                    subst e1
                    have HDF := Lib.hid hdf
                    have hpI : (p : Int) < (rn : Int) := by omega
                    have hpc : (p : Int) ≤ (cr : Int) := by omega
                    have hp1 : (p : Int) + 1 ≤ (rn : Int) := by omega
                    have hp0 : (0 : Int) ≤ (p : Int) + 1 := by omega
                    have hwp : IntKind.i64.wrap ((p : Int) + 1) = (p : Int) + 1 := IntWalk.i64_in _ (by omega)
                    obtain ⟨ax, cx, hvx, hcx, _, hrow⟩ := TailRow.rules HSA.out.row
                    rw [HRN.out] at hvx hcx
                    simp only [Value.slice.injEq] at hvx
                    obtain ⟨rfl, -, rfl⟩ := hvx
                    have HRW : Hid (∀ w', Keeps (fun _ => False) wA w' → RuleRow w' ar rs) := fun w' hk => hrow.keeps (hk.below (Nat.le_refl _) (fun _ _ x => x)) (fun _ _ _ h => h)
                    have HOB : Hid (∀ w', Keeps (fun _ => False) wA w' → (fun w' : World => w'.cell? ⟨ob, 1, none⟩ = some (.int .i64 kind) ∧ w'.cell? ⟨ob, 2, none⟩ = some (.int .i64 head) ∧ w'.cell? ⟨ob, 3, none⟩ = some (.int .i64 who) ∧ w'.cell? ⟨ob, 4, none⟩ = some (.int .i64 a) ∧ w'.cell? ⟨ob, 5, none⟩ = some (.int .i64 b) ∧ w'.cell? ⟨ob, 6, none⟩ = some (.int .i64 via)) w') := fun w' hk => by
                      have e := (hk.block _ (lt_of_heap HBA.out) (fun x => x)).trans HBA.out
                      refine ⟨?_, ?_, ?_, ?_, ?_, ?_⟩ <;> (rw [cell_of_heap e]; rfl)
                    clear HANS hdf HAT hrow HBA
                    go_upto_region 31 with fail
                    have hB1 := HOB.out wA.drew ((Keeps.refl _ _).drew)
                    go_cut [6] (fun rv2 wx => Hid (Ap wA wx rv2 (rs.take p ++ rs.drop (p + 1))))
                    case first =>
                      refine wp_region_noPanic ?_
                      refine wp_region_held_drew (S := (fun w' : World => w'.cell? ⟨ob, 1, none⟩ = some (.int .i64 kind) ∧ w'.cell? ⟨ob, 2, none⟩ = some (.int .i64 head) ∧ w'.cell? ⟨ob, 3, none⟩ = some (.int .i64 who) ∧ w'.cell? ⟨ob, 4, none⟩ = some (.int .i64 a) ∧ w'.cell? ⟨ob, 5, none⟩ = some (.int .i64 b) ∧ w'.cell? ⟨ob, 6, none⟩ = some (.int .i64 via))) (by kernel_rfl) hB1 (fun hHeld => ?_)
                      refine wpAnyH_take_at (i := 1) (v := ?v1x15) rfl (by kernel_rfl) (by kernel_rfl) (by kernel_rfl) (fun _ _ _ h => h) (Or.inl ⟨by rfl, ?y1x15⟩) hHeld ?r1x15
                      case y1x15 => (intro w hSw; (try dsimp only at hSw); go_simp; first | done | with_reducible rfl)
                      (try simp only [Act.put, List.setIfInBounds_toArray, List.set_cons_zero, List.set_cons_succ])
                      refine wpAnyH_take_at (i := 2) (v := ?v2x16) rfl (by kernel_rfl) (by kernel_rfl) (by kernel_rfl) (fun _ _ _ h => h) (Or.inl ⟨by rfl, ?y2x16⟩) hHeld ?r2x16
                      case y2x16 => (intro w hSw; (try dsimp only at hSw); go_simp; first | done | with_reducible rfl)
                      (try simp only [Act.put, List.setIfInBounds_toArray, List.set_cons_zero, List.set_cons_succ])
                      refine wpAnyH_take_at (i := 3) (v := ?v3x17) rfl (by kernel_rfl) (by kernel_rfl) (by kernel_rfl) (fun _ _ _ h => h) (Or.inl ⟨by rfl, ?y3x17⟩) hHeld ?r3x17
                      case y3x17 => (intro w hSw; (try dsimp only at hSw); go_simp; first | done | with_reducible rfl)
                      (try simp only [Act.put, List.setIfInBounds_toArray, List.set_cons_zero, List.set_cons_succ])
                      refine wpAnyH_take_at (i := 5) (v := ?v5x18) rfl (by kernel_rfl) (by kernel_rfl) (by kernel_rfl) (fun _ _ _ h => h) (Or.inl ⟨by rfl, ?y5x18⟩) hHeld ?r5x18
                      case y5x18 => (intro w hSw; (try dsimp only at hSw); go_simp; first | done | with_reducible rfl)
                      (try simp only [Act.put, List.setIfInBounds_toArray, List.set_cons_zero, List.set_cons_succ])
                      refine wpAnyH_take_at (i := 6) (v := ?v6x19) rfl (by kernel_rfl) (by kernel_rfl) (by kernel_rfl) (fun _ _ _ h => h) (Or.inl ⟨by rfl, ?y6x19⟩) hHeld ?r6x19
                      case y6x19 => (intro w hSw; (try dsimp only at hSw); go_simp; first | done | with_reducible rfl)
                      (try simp only [Act.put, List.setIfInBounds_toArray, List.set_cons_zero, List.set_cons_succ])
                      refine wpAnyH_take_at (i := 7) (v := ?v7x20) rfl (by kernel_rfl) (by kernel_rfl) (by kernel_rfl) (fun _ _ _ h => h) (Or.inl ⟨by rfl, ?y7x20⟩) hHeld ?r7x20
                      case y7x20 => (intro w hSw; (try dsimp only at hSw); go_simp; first | done | with_reducible rfl)
                      (try simp only [Act.put, List.setIfInBounds_toArray, List.set_cons_zero, List.set_cons_succ])
                      refine wpAnyH_take_at (i := 8) (v := ?v8x21) rfl (by kernel_rfl) (by kernel_rfl) (by kernel_rfl) (fun _ _ _ h => h) (Or.inl ⟨by rfl, ?y8x21⟩) hHeld ?r8x21
                      case y8x21 => (intro w hSw; (try dsimp only at hSw); go_simp; first | done | with_reducible rfl)
                      (try simp only [Act.put, List.setIfInBounds_toArray, List.set_cons_zero, List.set_cons_succ])
                      have HKD0 : Keeps (fun _ => False) wA wA.drew := (Keeps.refl _ _).drew
                      obtain ⟨wD, hwD⟩ : ∃ x, wA.drew = x := ⟨_, rfl⟩
                      simp only [hwD] at hHeld HKD0 ⊢
                      clear hwD
                      have HKD := Lib.hid HKD0
                      clear HKD0
                      refine wpAnyH_one (i := 0) (by kernel_rfl) rfl (fun KK hK => ?_)
                      go_simp
                      have HED : Hid (Ap wA (wD.alloc (.cells #[] 29)) (.slice (some ⟨wD.heap.size, 0, none⟩) 0 0) []) := Ap.start HKD.out
                      refine hK.out _ _ ?sED (fun hHeld => ?_)
                      case sED => exact HOB.out _ HED.out.kp
                      clear hK KK
                      obtain ⟨eD, heD⟩ : ∃ e, wD.heap.size = e := ⟨_, rfl⟩
                      obtain ⟨wED, hwED⟩ : ∃ x, wD.alloc (.cells #[] 29) = x := ⟨_, rfl⟩
                      simp only [hwED] at HED hHeld ⊢
                      (try simp only [heD] at HED ⊢)
                      clear hwED
                      (try simp only [Act.put, List.setIfInBounds_toArray, List.set_cons_zero, List.set_cons_succ])
                      refine wpAnyH_one (i := 4) (by kernel_rfl) rfl (fun KK hK => ?_)
                      refine step_append_rules rfl (.tmp 111) (.tmp 114) rfl (.slice (some ⟨eD, 0, none⟩) 0 0) [] (by simp [Act.eval, Act.put]) HED.out.row ar cr p (rs.take p) (by rw [List.length_take, HRN.out]; omega) (by simp [Act.eval, Act.put]) ((HRW.out _ HED.out.kp).take p) p (by rw [List.nil_append, List.length_take, HRN.out]; omega) (by omega) ?_
                      intro aoD1 capD1 wAD1 hownD1 hgrowD1 hfpD1
                      have HAD1 : Hid (Ap wA wAD1 (.slice aoD1 p capD1) ([] ++ (rs.take p))) := HED.out.grow hownD1 hgrowD1 hfpD1
                      refine hK.out _ _ ?sAD1 (fun hHeld => ?_)
                      case sAD1 => exact HOB.out _ HAD1.out.kp
                      clear hK KK
                      (try simp only [Act.put, List.setIfInBounds_toArray, List.set_cons_zero, List.set_cons_succ])
                      refine wpAnyH_one (i := 9) (by kernel_rfl) rfl (fun KK hK => ?_)
                      refine step_append_rules rfl (.tmp 115) (.tmp 119) rfl (.slice aoD1 p capD1) ([] ++ rs.take p) (by simp [Act.eval, Act.put]) HAD1.out.row (if cr = p + 1 then ar else Option.map (fun x => x.add ((p + 1) * 6)) ar) (cr - (p + 1)) (rn - (p + 1)) (rs.drop (p + 1)) (by rw [List.length_drop, HRN.out]) (by simp [Act.eval, Act.put]) ((HRW.out _ HAD1.out.kp).drop (by rw [HRN.out]; exact hcx) (p + 1)) (rn - 1) (by rw [List.length_append, List.nil_append, List.length_take, List.length_drop, HRN.out]; omega) (by omega) ?_
                      intro aoD2 capD2 wAD2 hownD2 hgrowD2 hfpD2
                      have HAD2 : Hid (Ap wA wAD2 (.slice aoD2 (rn - 1) capD2) (([] ++ rs.take p) ++ (rs.drop (p + 1)))) := HAD1.out.grow hownD2 hgrowD2 hfpD2
                      refine hK.out _ _ ?sAD2 (fun hHeld => ?_)
                      case sAD2 => exact HOB.out _ HAD2.out.kp
                      clear hK KK
                      (try simp only [Act.put, List.setIfInBounds_toArray, List.set_cons_zero, List.set_cons_succ])
                      refine wpAnyH_take_at (i := 10) (v := ?v10x22) rfl (by kernel_rfl) (by kernel_rfl) (by kernel_rfl) (fun _ _ _ h => h) (Or.inl ⟨by rfl, ?y10x22⟩) hHeld ?r10x22
                      case y10x22 => (intro w hSw; (try dsimp only at hSw); go_simp; first | done | with_reducible rfl)
                      (try simp only [Act.put, List.setIfInBounds_toArray, List.set_cons_zero, List.set_cons_succ])
                      refine wpAnyH_done (by kernel_rfl) ?_ _
                      refine NoPanic.normal ?_
                      have HFD : Hid (Ap wA wAD2 (.slice aoD2 (rn - 1) capD2) (rs.take p ++ rs.drop (p + 1))) := HAD2.out
                      clear hHeld
                      generalize (if cr = p + 1 then ar else Option.map (fun x => x.add ((p + 1) * 6)) ar) = xo9
                      go_wp2_with fail
                      go_meet
                      case rel => exact HFD
                    case rest =>
                      have HSC := Lib.hid (HSA.out.newRow hcut.out.kp hcut.out.row hcut.out.own)
                      have hkC := hcut.out.kp
                      clear hcut
                      obtain ⟨rs2, hrs2⟩ : ∃ x, rs.take p ++ rs.drop (p + 1) = x := ⟨_, rfl⟩
                      have hl2 : rs2.length = rn - 1 := by rw [← hrs2, List.length_append, List.length_take, List.length_drop, HRN.out]; omega
                      rw [hrs2] at HSC HDF
                      obtain ⟨ar2, cr2, hv2, _, _, hev2⟩ := HSC.out.eval HSC.out.st.is.right hl2 (by omega) (by omega) (by omega) HNE.out
                      subst hv2
                      have HEV2 := Lib.hid hev2
                      have HRC := Lib.hid (HRA.out.keeps hkC)
                      have HUC := Lib.hid (HUA.out.keeps hkC (fun _ _ x => x))
                      have HL2 := Lib.hid hl2
                      clear hev2 hkC hrs2 hl2
                      go_wp2_with fail
                      refine HEV2.out.mono ?_
                      rintro e wG ⟨mb2, rfl, hm2⟩
                      obtain ⟨am2, cm2, rbm2, F2, hR2, hF2⟩ := hm2.out.2
                      have HSG := Lib.hid (HSC.out.quiet hm2.out.1)
                      have HUG := Lib.hid (HUC.out.keeps hm2.out.1 (fun _ _ x => x))
                      have HPA := Lib.hid (pairs_spec (HRC.out.keeps hm2.out.1) hR2 (by omega) (by omega))
                      have HWA := Lib.hid (want_add HNE.out HDF.out hF2 HF.out)
                      clear HEV2 hm2 hR2 hF2 HSC HUC HRC
                      go_wp2_with fail
                      refine HPA.out.mono ?_
                      rintro e wH ⟨pv, rfl, hpv⟩
                      have HN2 : Hid (PlS W0 wH lb P K rs2 Fp' (.slice ar2 (rn - 1) cr2) rs2 ∧ rs2.length ≤ j + 1 ∧ ReadsP wH u ans ∧ ReadsP wH pv ans ∧ (ans : List (Nat × Nat)).length ≤ 1000000) := by
                        have hw := HWA.out
                        refine ⟨HSG.out.quiet hpv.out.2, by rw [HL2.out]; omega, HUG.out.keeps hpv.out.2 (fun _ _ x => x), by rw [hw]; exact hpv.out.1.reads, ?_⟩
                        rw [hw]
                        have h1 := diffTo_len F F2 P N
                        have h2 : N * P ≤ 40 * 8 := Nat.mul_le_mul hN40 hPl
                        omega
                      clear HPA HWA hpv HSG HUG HDF
                      go_wp2_with fail
                      go_meet
                      case rel => exact ⟨rs2, _, ans, _, rfl, rfl, HN2⟩
              case rest =>
                obtain ⟨rs2, Fp2, ans, cd, rfl, rfl, HC⟩ := hcut
                clear HSE HRM HF HBE HAT HRN hm hbb
                obtain ⟨rn2, hrn2⟩ : ∃ x, rs2.length = x := ⟨_, rfl⟩
                have HRN2 := Lib.hid hrn2
                have hrn2j : rn2 ≤ j + 1 := by rw [← hrn2]; exact HC.out.2.1
                obtain ⟨ar3, cr3, hv3, _, _, _⟩ := HC.out.1.eval HC.out.1.st.is.right hrn2 (by omega) (by omega) (by omega) HNE.out
                subst hv3
                have HSM := Lib.hid (psame_yes HC.out.2.2.1 HC.out.2.2.2.1 HC.out.2.2.2.2)
                have HC1 : Hid (PlS W0 wc lb P K rs2 Fp2 (.slice ar3 rn2 cr3) rs2) := HC.out.1
                have hcd : (cd != cd) = false := by simp
                clear HC hrn2
                go_wp2_with fail
                refine HSM.out.mono ?_
                rintro e w5 ⟨rfl, hk5⟩
                have HC2 := Lib.hid (HC1.out.quiet hk5.out)
                have HRU := Lib.hid (lrules_spec HC2.out.st.is)
                clear HSM HC1 hk5
                go_wp2_with fail
                refine HRU.out.mono ?_
                rintro e w6 ⟨uu, rfl, hu⟩
                obtain ⟨ao6, cap6, rfl, _, hrow6, _, _⟩ := hu.out.1
                have HC3 := Lib.hid (HC2.out.quiet hu.out.2)
                obtain ⟨ax, cx, hvx, _, _, hrow7⟩ := TailRow.rules HC3.out.row
                rw [HRN2.out] at hvx
                simp only [Value.slice.injEq] at hvx
                obtain ⟨rfl, -, rfl⟩ := hvx
                have HRS := Lib.hid (rsame_yes (cu := cap6) (cv := cr3) hrow6 hrow7 HRN2.out (by omega))
                rw [HRN2.out]
                clear HRU HC2 hu hrow6 hrow7
                go_wp2_with fail
                refine HRS.out.mono ?_
                rintro e w7 ⟨rfl, hk7⟩
                have HC4 : Hid (PlS W0 w7 lb P K rs2 Fp2 (.slice ar3 rn2 cr3) rs2 ∧ rs2.length ≤ j + 1) := ⟨HC3.out.quiet hk7.out, by rw [HRN2.out]; omega⟩
                clear HRS HC3 hk7 HRN2
                go_wp2_with fail
                go_roundg (n - (j + 1))
                case measure => omega
                case rel => exact ⟨j + 1, rs2, Fp2, by omega, by omega, rfl, by go_num, HC4⟩
      · have hjI : ¬ (j : Int) < (n : Int) := by omega
        have HE : Hid (PlS W0 wr lb P K rs Fp u6 rs ∧ rs.length ≤ 30) := ⟨HS.out.1, Nat.le_trans HS.out.2 hj30⟩
        clear HS
        go_wp2_with fail
        go_meet
        case rel => exact ⟨rs, Fp, HE⟩
  case rest =>
    obtain ⟨rs, Fp, HS⟩ := hcut
    clear HS1 HOS HKD HOL HBX
    obtain ⟨rn, hrn⟩ : ∃ rn, rs.length = rn := ⟨_, rfl⟩
    have hrn30 : rn ≤ 30 := by rw [← hrn]; exact HS.out.2
    obtain ⟨ar, cr, hv, _, _, hev⟩ := HS.out.1.eval HS.out.1.st.is.right hrn (by omega) (by omega) (by omega) HNE.out
    subst hv
    have HEV := Lib.hid hev
    have HSL := Lib.hid HS.out.1.st
    clear HS hrn hev
    go_upto_region 37 with (go_at_call 10; refine HEV.out.mono ?_; rintro e wE ⟨mb, rfl, hmm⟩)
    have HSE := Lib.hid (HSL.out.quiet hmm.out.1)
    obtain ⟨am, cm, rbm, F, hRM, hF⟩ := hmm.out.2
    have HRM := Lib.hid hRM
    have HF := Lib.hid hF
    clear hmm hRM hF HEV HSL
    have HLS : Hid (∀ W, Keeps (fun _ => False) wE W → LvS W0 W lb P K rs Fp) := fun W hk => HSE.out.quiet hk
    have HML : Hid (∀ W, Keeps (fun _ => False) wE W → ∀ i : Int, Calls Tryd.prog 12 #[.pointer (some ⟨lb, 0, none⟩), .int .i64 i] W fun e W' => ∃ u, e = .returned u ∧ Hid (ReadsL W' u (listTo (rowP N F i) P) ∧ Keeps (fun _ => False) W W')) := fun W hk i => by
      refine (members_spec (HLS.out W hk).is ((HLS.out W hk).tab HT0.out) i).mono ?_
      rintro e W' ⟨u, l, rfl, hu⟩
      obtain ⟨h1, h2, h3, h4⟩ := hu.out
      rw [HNE.out] at h4
      have e : l = listTo (rowP N F i) P := members_plain HF.out h3 h4
      subst e
      exact ⟨u, rfl, h1.reads, h2⟩
    have HXL : Hid (∀ W, Keeps (fun _ => False) wE W → ∀ i : Int, Calls Tryd.prog 20 #[.pointer (some ⟨mb, 0, none⟩), .int .i64 i] W fun e W' => ∃ u, e = .returned u ∧ Hid (ReadsL W' u (listTo (rowP N F i) P) ∧ Keeps (fun _ => False) W W')) := fun W hk i => by
      refine (rmembers_spec (HRM.out.keeps hk) (by omega) i).mono ?_
      rintro e W' ⟨v, rfl, hown, hb⟩
      exact ⟨v, rfl, ReadsL.of_own hown, Keeps.of_below hb (Nat.le_refl _)⟩
    have HIN : Hid (∀ W, Keeps (fun _ => False) wE W → ∀ i : Int, Calls Tryd.prog 21 #[.pointer (some ⟨lb, 0, none⟩), .int .i64 i, .int .i64 0] W fun e W' => e = .returned (.bool (hasB N P F i 0)) ∧ W = W') := fun W hk i => by
      refine (lin_spec (HLS.out W hk).is i 0 (by omega)).mono ?_
      rintro e W' ⟨b, rfl, rfl, hx⟩
      obtain ⟨In, rfl, hIn⟩ := hx.out
      rw [HNE.out] at hIn ⊢
      have e : In = F := in_same hIn HF.out
      subst e
      exact ⟨rfl, rfl⟩
    have HHA : Hid (∀ W, Keeps (fun _ => False) wE W → ∀ i : Int, Calls Tryd.prog 13 #[.pointer (some ⟨mb, 0, none⟩), .int .i64 i, .int .i64 0] W fun e W' => e = .returned (.bool (hasB N P F i 0)) ∧ W = W') := fun W hk i => rhas_spec (HRM.out.keeps hk) i 0
    have HXC : Hid (∀ W, Keeps (fun _ => False) wE W → W.cell? ⟨mb, 2, none⟩ = some (.slice am N cm)) := fun W hk => (HRM.out.keeps hk).cells.2.2
    have HLE : Hid (∀ W, Keeps (fun _ => False) wE W → Calls Tryd.prog 14 #[.pointer (some ⟨lb, 0, none⟩)] W fun e W' => e = .returned (.int .i64 ((sumQ F P N (N + 2) : Nat) : Int)) ∧ W = W') := fun W hk => by
      refine (llen_spec (HLS.out W hk).is).mono ?_
      rintro e W' ⟨q, rfl, rfl, hq⟩
      obtain ⟨In, hq1, hq2⟩ := hq.out
      rw [HNE.out] at hq1 hq2
      have e : In = F := in_same hq2 HF.out
      subst e
      have e2 : sumQ In P N (N + 2) = q := by
        rw [hq1]
        unfold sumQ
        rw [show min (N + 2 - 1) N = N by omega]
        rfl
      rw [e2]
      exact ⟨rfl, rfl⟩
    have HLV : Hid (∀ W, Keeps (fun _ => False) wE W → Calls Tryd.prog 6 #[] W fun e W' => e = .returned (.bool true) ∧ Hid (Keeps (fun _ => False) W W')) := fun W hk => lives43_any W ((HLS.out W hk).tab HT0.out)
    have HBB : Hid (∀ W, Keeps (fun _ => False) wE W → Below w.heap.size w W) := fun W hk => HB.out _ (HSE.out.kp.trans hk)
    have hsl := sumQ_le F P N
    have HSQ := Lib.hid (sumQ_next F P N)
    have HREF : Hid (Keeps (fun _ => False) wE wE) := Keeps.refl _ _
    have hNP : N * P ≤ 40 * 8 := Nat.mul_le_mul hN40 hPl
    have HSL2 : Hid (∀ q, sumQ F P N q ≤ 320) := fun q => Nat.le_trans (hsl q) hNP
    have HS00 : Hid (sumQ F P N 0 = 0) := by
      show _ = _
      unfold sumQ
      rw [show min (0 - 1) N = 0 by omega]
      rfl
    clear HSE HRM HLS HF HB HNE hsl hNP
    go_wp2_with fail
    go_loopg [20, 21] (N + 2) (fun g nv t wy => ∃ (q s : Nat) (role : Int), q ≤ N + 2 ∧ g = N + 2 - q ∧ s ≤ 320 ∧ Hid (role = (q : Int) - 1) ∧ nv = .int .i64 s ∧ t = .int .i64 role ∧ Hid (s = sumQ F P N q) ∧ Hid (Keeps (fun _ => False) wE wy))
    case atStart => exact ⟨0, 0, -1, Nat.zero_le _, rfl, Nat.zero_le _, Lib.hid (by decide), rfl, rfl, Lib.hid HS00.out.symm, HREF⟩
    case round =>
      clear HREF HS00
      obtain ⟨q, s, role, hq, rfl, hs, hrole, rfl, rfl, HSU, hk⟩ := hrel
      have xc := HXC.out _ hk.out
      by_cases hlt : q < N + 2
      · have hle : role ≤ (N : Int) := by have := hrole.out; omega
        obtain ⟨role2, hr2⟩ : ∃ c2, role + 1 = c2 := ⟨_, rfl⟩
        have hw : IntKind.i64.wrap (role + 1) = role2 := (IntWalk.i64_in _ (by have := hrole.out; omega)).trans hr2
        have HR2 := Lib.hid hr2
        obtain ⟨l, hl⟩ : ∃ l, listTo (rowP N F role) P = l := ⟨_, rfl⟩
        obtain ⟨ln, hln⟩ : ∃ ln, l.length = ln := ⟨_, rfl⟩
        obtain ⟨s2, hs2⟩ : ∃ s2, s + ln = s2 := ⟨_, rfl⟩
        have HSN : Hid (s2 = sumQ F P N (q + 1)) := by
          show _ = _
          rw [HSQ.out, ← HSU.out, ← hs2, ← hln, ← hl, hrole.out]
        have hs2l : s2 ≤ 320 := by rw [HSN.out]; exact HSL2.out _
        have hws : IntKind.i64.wrap ((s : Int) + (ln : Int)) = (s2 : Int) := by rw [show (s : Int) + (ln : Int) = (s2 : Int) by omega]; exact IntWalk.i64_in _ (by omega)
        obtain ⟨hb, hhb⟩ : ∃ hb, hasB N P F role 0 = hb := ⟨_, rfl⟩
        have A1 := Lib.hid (HML.out _ hk.out role)
        have A2 : Hid (∀ W, Keeps (fun _ => False) wE W → Calls Tryd.prog 20 #[.pointer (some ⟨mb, 0, none⟩), .int .i64 role] W fun e W' => ∃ u, e = .returned u ∧ Hid (ReadsL W' u l ∧ Keeps (fun _ => False) W W')) := fun W hk => by rw [← hl]; exact HXL.out W hk role
        have A3 : Hid (∀ W, Keeps (fun _ => False) wE W → Calls Tryd.prog 21 #[.pointer (some ⟨lb, 0, none⟩), .int .i64 role, .int .i64 0] W fun e W' => e = .returned (.bool hb) ∧ W = W') := fun W hk => by rw [← hhb]; exact HIN.out W hk role
        have A4 : Hid (∀ W, Keeps (fun _ => False) wE W → Calls Tryd.prog 13 #[.pointer (some ⟨mb, 0, none⟩), .int .i64 role, .int .i64 0] W fun e W' => e = .returned (.bool hb) ∧ W = W') := fun W hk => by rw [← hhb]; exact HHA.out W hk role
        have hbne : (hb != hb) = false := by simp
        have hbne2 : (hb == hb) = true := by simp
        rw [hl] at A1
        have HLN := Lib.hid hln
        have hll : l.length ≤ 1000000 := by rw [hln]; omega
        have HLL := Lib.hid hll
        clear hr2 hl hln hs2 hhb hll
        go_wp2_with fail
        refine A1.out.mono ?_
        rintro e w5 ⟨u5, rfl, h5⟩
        have B2 := Lib.hid (A2.out w5 (hk.out.trans h5.out.2))
        go_wp2_with fail
        refine B2.out.mono ?_
        rintro e w6 ⟨u6, rfl, h6⟩
        have B3 := Lib.hid (same_spec (h5.out.1.keeps h6.out.2) h6.out.1 HLL.out HLL.out)
        have hk6 := Lib.hid ((hk.out.trans h5.out.2).trans h6.out.2)
        clear A1 B2 h5 h6
        go_wp2_with fail
        refine B3.out.mono ?_
        rintro e w7 ⟨rfl, nq, rfl⟩
        simp only [decide_true]
        have hk7 := Lib.hid (hk6.out.drewN nq)
        obtain ⟨w7, hw7⟩ : ∃ w7, w6.drewN nq = w7 := ⟨_, rfl⟩
        rw [hw7] at hk7 ⊢
        have B4 := Lib.hid (A3.out w7 hk7.out)
        have B5 := Lib.hid (A4.out w7 hk7.out)
        have B6 := Lib.hid (A2.out w7 hk7.out)
        clear B3 hk6 hw7 A2 A3 A4
        go_wp2_with fail
        refine B4.out.mono ?_
        rintro e w8 ⟨rfl, rfl⟩
        clear B4
        go_wp2_with fail
        refine B5.out.mono ?_
        rintro e w8 ⟨rfl, rfl⟩
        clear B5
        go_wp2_with fail
        refine B6.out.mono ?_
        rintro e w9 ⟨u9, rfl, h9⟩
        obtain ⟨a9, c9, rfl, _⟩ := h9.out.1
        rw [HLN.out]
        have hk9 := Lib.hid (hk7.out.trans h9.out.2)
        clear B6 h9
        go_wp2_with fail
        go_roundg (N + 2 - (q + 1))
        case measure => omega
        case rel => exact ⟨q + 1, s2, role2, by omega, rfl, hs2l, (by have := HR2.out; have := hrole.out; omega : role2 = ((q + 1 : Nat) : Int) - 1), rfl, rfl, HSN, hk9⟩
      · have hle : ¬ role ≤ (N : Int) := by have := hrole.out; omega
        have hqE : q = N + 2 := by omega
        have HLE2 : Hid (Calls Tryd.prog 14 #[.pointer (some ⟨lb, 0, none⟩)] wr fun e W' => e = .returned (.int .i64 s) ∧ wr = W') := by
          have := HLE.out wr hk.out
          rw [← hqE, ← HSU.out] at this
          exact this
        have HV := Lib.hid (HLV.out wr hk.out)
        clear HML HXL HIN HHA HXC HLE HLV HSQ hqE HSU
        go_wp2_with fail
        refine HLE2.out.mono ?_
        rintro e w5 ⟨rfl, rfl⟩
        clear HLE2
        go_wp2_with fail
        refine HV.out.mono ?_
        rintro e w6 ⟨rfl, hk6⟩
        have HP := Lib.hid (HBB.out _ (hk.out.trans hk6.out))
        clear HV hk6
        go_wp2_with fail
        go_ret
        exact ⟨rfl, HP.out⟩
theorem livePlays_core (w : World) (c : Array Value) (hs : c.size = 2) (hf : Fits [.int .i64, .int .i64] 0 c.toList) (ao : Option Addr) (n cap : Nat) (G : Nat → Nat → Value) (R : IsRow w [.int .u64, .int .i64, .int .i64, .int .i64, .int .i64, .int .i64, .int .i64] ao n cap G) (hT : TabIn w) :
    Calls Tryd.prog 4 #[.agg c, .slice ao n cap] w fun e w' => e = .returned (.bool true) ∧ Below w.heap.size w w' := by
  obtain ⟨x, y, rfl⟩ := dims_of_fits hs hf
  obtain ⟨os, hos, hO, hkd⟩ := R.lops
  by_cases h0 : 8 < x
  · exact livePlays_small w x y ao n cap (.inl h0) hT
  · by_cases h1 : 5 < y
    · exact livePlays_small w x y ao n cap (.inr h1) hT
    · exact livePlays_any w x y ao n cap h0 h1 os hos hkd hO hT
end Go.Proofs.YtaabmkebbnkonaaDoor
