/-
  The walk of the law SemModels.
-/
import Derived.Test.YtckjgefpelnkoaaDoorSemModelsPlain
import Derived.Test.YtckjgefpelnkoaaDoorSemHoldsAll
import Derived.Test.YtckjgefpelnkoaaDoorSemNil
set_option linter.unusedVariables false
set_option linter.unusedSimpArgs false
set_option linter.unnecessarySimpa false
namespace Go.Proofs.YtckjgefpelnkoaaDoor
open Go.ChangeShapes Go.WideShapes Go.ChangeAt Go.RowKit Go.Deep SetPlain
set_option maxRecDepth 100000 in
set_option maxHeartbeats 3200000 in
theorem semModels_any (w : World) (d0 d1 : Int) (ao : Option Addr) (n cap : Nat) (rs : List Rl) (hrs : rs.length = n) (hfit : ∀ r, r ∈ rs → r.Fits) (hcap : n ≤ cap) (hR : RuleRow w ao rs) (hT : TabIn w) :
    Calls Tryd.prog 4 #[.agg #[.int .i64 d0, .int .i64 d1], .slice ao n cap] w fun e w' => e = .returned (.bool true) ∧ Below w.heap.size w w' := by
  have hk0 : Keeps (fun _ => False) w (w.alloc (.cells #[.int .i64 d0, .int .i64 d1] 22)) := (Keeps.refl _ _).alloc _
  have hT0 := hT.keeps hk0 (fun x => x)
  have HS := Lib.hid (ssmall_spec d0 d1 ao n cap (w.alloc (.cells #[.int .i64 d0, .int .i64 d1] 22)))
  by_cases hsm : d0 ≤ 10 ∧ d1 ≤ 6 ∧ n ≤ 60
  · rw [decide_eq_true hsm] at HS
    obtain ⟨hs0, hs1, hs2⟩ := hsm
    obtain ⟨P, hP⟩ := within_cases d0 64
    obtain ⟨K, hK⟩ := within_cases d1 64
    have hPl : P ≤ 10 := by unfold Within at hP; omega
    have hKl : K ≤ 6 := by unfold Within at hK; omega
    have HW : Hid (Keeps (fun _ => False) w (w.alloc (.cells #[.int .i64 d0, .int .i64 d1] 22)).drew) := hk0.drew
    have HKR : Hid (∀ W, Keeps (fun _ => False) w W → RuleRow W ao rs) := fun W hk => hR.keeps (hk.below (Nat.le_refl _) (fun _ _ x => x)) (fun _ _ _ h => h)
    have HKT : Hid (∀ W, Keeps (fun _ => False) w W → TabIn W) := fun W hk => hT.keeps hk (fun x => x)
    have HEV : Hid (∀ W, Keeps (fun _ => False) w W → Calls Tryd.prog 7 #[.int .i64 d0, .int .i64 d1, .slice ao n cap] W (EvalPost P K rs W)) := fun W hk => by
      have := seval_spec d0 d1 P K hP hK rs (by omega) ao cap W (HKR.out W hk) (by omega) (HKT.out W hk)
      rw [hrs] at this
      exact this
    have HX := Lib.hid (And.intro hP hK)
    have HFIT := Lib.hid hfit
    clear hT hT0 hR hk0 hP hK hfit
    go_enter Tryd.func4, Tryd.ntmps4
    go_wp2_with fail
    refine HS.out.mono ?_
    rintro e w' ⟨rfl, rfl⟩
    clear HS
    go_upto_region 3 with fail
    go_cut [5, 6] (fun s t wx => s = .int .i64 P ∧ t = .int .i64 K ∧ wx = (w.alloc (.cells #[.int .i64 d0, .int .i64 d1] 22)).drew)
    case first =>
      obtain ⟨hP, hK⟩ := HX.out
      have hP' : d0 < 0 ∧ P = 0 ∨ d0 = (P : Int) := by unfold Within at hP; omega
      have hK' : d1 < 0 ∧ K = 0 ∨ d1 = (K : Int) := by unfold Within at hK; omega
      clear HEV HKR HKT HX HFIT hP hK
      rcases hP' with ⟨hp, rfl⟩ | rfl
      · rcases hK' with ⟨hk, rfl⟩ | rfl
        · go_region
          all_goals (go_wp2_with fail; go_meet; exact ⟨rfl, rfl, rfl⟩)
        · have hk : (0 : Int) ≤ (K : Int) := by omega
          go_region
          all_goals (go_wp2_with fail; go_meet; exact ⟨rfl, rfl, rfl⟩)
      · have hp : (0 : Int) ≤ (P : Int) := by omega
        rcases hK' with ⟨hk, rfl⟩ | rfl
        · go_region
          all_goals (go_wp2_with fail; go_meet; exact ⟨rfl, rfl, rfl⟩)
        · have hk : (0 : Int) ≤ (K : Int) := by omega
          go_region
          all_goals (go_wp2_with fail; go_meet; exact ⟨rfl, rfl, rfl⟩)
    case rest =>
      obtain ⟨rfl, rfl, rfl⟩ := hcut
      have HE := Lib.hid (HEV.out _ HW.out)
      go_wp2_with fail
      refine HE.out.mono ?_
      rintro e w2 ⟨mo, rfl, hl⟩
      obtain ⟨fb, bw, rb, In, tot, steps, hm⟩ := hl.out
      have hw2 : Keeps (fun _ => False) w w2 := HW.out.trans (Keeps.of_below hm.base (Nat.le_refl _))
      have HM0 : Hid (MdT mo fb bw rb P K tot steps In w w2) := ⟨⟨hm.obj, hm.fam⟩, hw2, HKT.out _ hw2⟩
      have hd := hm.tells
      have hout : ∀ i c, In i c = true → c < P := fun i c h => by
        rcases Nat.lt_or_ge c P with h2 | h2
        · exact h2
        · rw [hm.fam.out i c h2] at h; cases h
      have HHO : Hid (∀ r, r ∈ rs → rightB P K r = true → holdsB P K In r = true) := fun r hr hR => holds_of_rule hd hr hR
      have HFO : Hid (∀ role who, In role who = true → rs.any (fol1 P K In role who) = true) := fun role who h => follows_of_in hd hout h
      have HFW : Hid (∀ W, Hid (MdT mo fb bw rb P K tot steps In w W) → ∀ role who : Nat, who < P → In role who = true → Calls Tryd.prog 17 #[.pointer (some ⟨mo, 0, none⟩), .int .i64 P, .int .i64 K, .slice ao n cap, .int .i64 role, .int .i64 who] W fun e W' => e = .returned (.bool true) ∧ Hid (MdT mo fb bw rb P K tot steps In w W') ∧ Hid (Keeps (fun _ => False) W W')) := fun W h role who hw hin =>
        (follows_spec h.out.mdl h.out.tab (by omega) (by omega) rs n hrs (by omega) ao cap hcap (HKR.out W h.out.keep) role who hw (HFO.out role who hin)).mono fun e W' ⟨he, hb⟩ => ⟨he, h.out.quiet (Keeps.of_below hb (Nat.le_refl _)), Keeps.of_below hb (Nat.le_refl _)⟩
      have HHD : Hid (∀ W, Hid (MdT mo fb bw rb P K tot steps In w W) → ∀ r, r ∈ rs → rightB P K r = true → Calls Tryd.prog 14 #[.pointer (some ⟨mo, 0, none⟩), .agg r.cells.toArray] W fun e W' => e = .returned (.bool true) ∧ Hid (MdT mo fb bw rb P K tot steps In w W')) := fun W h r hr hR => by
        have := hold_spec h.out.mdl h.out.tab (by omega) (by omega) r (HFIT.out r hr).2.2.1
        rw [HHO.out r hr hR] at this
        exact this.mono fun e W' ⟨he, hb⟩ => ⟨he, h.out.quiet (Keeps.of_below hb (Nat.le_refl _))⟩
      clear hm hl hd hout HE HEV HX HW HHO HFO hw2
      go_wp2_with fail
      go_loopg [36] n (fun g t wr => ∃ j : Nat, j ≤ n ∧ g = n - j ∧ t = .int .i64 j ∧ Hid (MdT mo fb bw rb P K tot steps In w wr))
      case atStart => exact ⟨0, Nat.zero_le _, rfl, rfl, HM0.out⟩
      case round =>
        clear HM0
        obtain ⟨j, hj, rfl, rfl, hmt⟩ := hrel
        by_cases hlt : j < n
        · obtain ⟨r, hr⟩ : ∃ r, rs[j]? = some r := ⟨_, List.getElem?_eq_getElem (by omega)⟩
          have hmem := List.mem_of_getElem? hr
          have hrow := HKR.out _ hmt.out.keep
          obtain ⟨bb, off, rfl, hbl, hc⟩ := hrow (by omega)
          obtain ⟨c0, c1, c2, c3, c4, c5⟩ := hc j r hr
          have hjI : (j : Int) < (n : Int) := by omega
          have hboth : Hid (rightB P K r = true → ∀ W, Hid (MdT mo fb bw rb P K tot steps In w W) → Calls Tryd.prog 14 #[.pointer (some ⟨mo, 0, none⟩), .agg r.cells.toArray] W fun e W' => e = .returned (.bool true) ∧ Hid (MdT mo fb bw rb P K tot steps In w W')) := fun h W hh => HHD.out W hh r hmem h
          obtain ⟨kind, head, hwo, a, b, via⟩ := r
          simp only [] at c0 c1 c2 c3 c4 c5
          have hbx : MdT mo fb bw rb P K tot steps In w (wr.alloc (.cells #[.int .i64 kind, .int .i64 head, .int .i64 hwo, .int .i64 a, .int .i64 b, .int .i64 via] 25)) := hmt.out.quiet ((Keeps.refl _ _).alloc _)
          have HBX := Lib.hid hbx
          obtain ⟨rb1, hrb⟩ : ∃ x, rightB P K ⟨kind, head, hwo, a, b, via⟩ = x := ⟨_, rfl⟩
          have HA : Hid (Calls Tryd.prog 16 #[.int .i64 P, .int .i64 K, .agg #[.int .i64 kind, .int .i64 head, .int .i64 hwo, .int .i64 a, .int .i64 b, .int .i64 via]] (wr.alloc (.cells #[.int .i64 kind, .int .i64 head, .int .i64 hwo, .int .i64 a, .int .i64 b, .int .i64 via] 25)) (RightPost rb1 (wr.alloc (.cells #[.int .i64 kind, .int .i64 head, .int .i64 hwo, .int .i64 a, .int .i64 b, .int .i64 via] 25)))) := by
            rw [← hrb]
            exact rr_spec _ _ _ ⟨kind, head, hwo, a, b, via⟩
          clear hbx hmt hrow hc hr hbl hmem
          go_wp2_with fail
          refine HA.out.mono ?_
          rintro e W2 ⟨rfl, hb2⟩
          have hk2 := Keeps.of_below (S := fun _ => False) hb2 (Nat.le_refl _)
          have HM2 := Lib.hid (HBX.out.quiet hk2)
          have q : ∀ i, W2.cell? ⟨wr.heap.size, i, none⟩ = (wr.alloc (.cells #[.int .i64 kind, .int .i64 head, .int .i64 hwo, .int .i64 a, .int .i64 b, .int .i64 via] 25)).cell? ⟨wr.heap.size, i, none⟩ := fun i => hb2.cell (p := ⟨wr.heap.size, i, none⟩) (by simp)
          have q0 := (q 0).trans (by simp : _ = some (.int .i64 kind))
          have q1 := (q 1).trans (by simp : _ = some (.int .i64 head))
          have q2 := (q 2).trans (by simp : _ = some (.int .i64 hwo))
          have q3 := (q 3).trans (by simp : _ = some (.int .i64 a))
          have q4 := (q 4).trans (by simp : _ = some (.int .i64 b))
          have q5 := (q 5).trans (by simp : _ = some (.int .i64 via))
          clear q hk2 hb2 HA HBX c0 c1 c2 c3 c4 c5
          cases rb1 with
          | false =>
            clear hboth
            go_wp2_with fail
            go_roundg (n - (j + 1))
            case measure => omega
            case rel => exact ⟨j + 1, by omega, rfl, by go_num, HM2.out⟩
          | true =>
            have A1 : Hid (Calls Tryd.prog 14 #[.pointer (some ⟨mo, 0, none⟩), .agg #[.int .i64 kind, .int .i64 head, .int .i64 hwo, .int .i64 a, .int .i64 b, .int .i64 via]] W2 fun e W' => e = .returned (.bool true) ∧ Hid (MdT mo fb bw rb P K tot steps In w W')) := hboth.out hrb W2 HM2
            clear hboth
            go_wp2_with fail
            refine A1.out.mono ?_
            rintro e W3 ⟨rfl, hm3⟩
            clear A1 HM2 q0 q1 q2 q3 q4 q5
            go_wp2_with fail
            go_roundg (n - (j + 1))
            case measure => omega
            case rel => exact ⟨j + 1, by omega, rfl, by go_num, hm3.out⟩
        · obtain rfl : j = n := by omega
          clear HHD HFIT
          obtain ⟨N, hN⟩ : ∃ N, P * K = N := ⟨_, rfl⟩
          have hNl : N ≤ 60 := by rw [← hN]; exact Nat.le_trans (Nat.mul_le_mul hPl hKl) (by decide)
          have hmul : IntKind.i64.wrap ((P : Int) * (K : Int)) = (N : Int) := by
            have : (P : Int) * (K : Int) = (N : Int) := by rw [← hN]; simp
            rw [this]; exact IntWalk.i64_in _ (by omega)
          have HNN := Lib.hid hN
          clear hN
          go_wp2_with fail
          go_loopg [54] N (fun g t wy => ∃ r : Nat, r ≤ N ∧ g = N - r ∧ t = .int .i64 r ∧ Hid (MdT mo fb bw rb P K tot steps In w wy))
          case atStart => exact ⟨0, Nat.zero_le _, rfl, rfl, hmt.out⟩
          case round =>
            clear hmt
            obtain ⟨r, hr, rfl, rfl, hmr⟩ := hrel
            by_cases hlt2 : r < N
            · have hrI : (r : Int) < (N : Int) := by omega
              have A1 := Lib.hid (MdT.list hmr (r : Int))
              have hin : ∀ y, y ∈ listTo (rowP (P * K) In (r : Int)) P → y < P ∧ In r y = true := fun y hy => by
                obtain ⟨h1, h2⟩ := listTo_lt _ _ _ hy
                rw [HNN.out, rowP_at hlt2] at h2
                exact ⟨h1, h2⟩
              have hll : (listTo (rowP (P * K) In (r : Int)) P).length ≤ 64 := by rw [listTo_len]; exact Nat.le_trans (cnt_le _ _) (by omega)
              generalize listTo (rowP (P * K) In (r : Int)) P = l at A1 hin hll
              have HIN := Lib.hid hin
              clear hin
              go_wp2_with fail
              refine A1.out.mono ?_
              rintro e w4 ⟨ao4, cap4, rfl, hr4, hm4, _⟩
              obtain ⟨ao5, cap5, he5, hle5, _, hcells⟩ := hr4.out
              cases he5
              have HCE := Lib.hid hcells
              clear hr4 hcells A1 hmr
              go_wp2_with fail
              go_loopg [61] l.length (fun g t wy => ∃ i : Nat, i ≤ l.length ∧ g = l.length - i ∧ t = .int .i64 i ∧ Hid (MdT mo fb bw rb P K tot steps In w wy) ∧ Hid (Keeps (fun _ => False) w4 wy))
              case atStart => exact ⟨0, Nat.zero_le _, rfl, rfl, hm4.out, Keeps.refl _ _⟩
              case round =>
                obtain ⟨i, hi, rfl, rfl, hm5, hk5⟩ := hrel
                by_cases hlt3 : i < l.length
                · obtain ⟨y, hy⟩ : ∃ y, l[i]? = some y := ⟨_, List.getElem?_eq_getElem hlt3⟩
                  obtain ⟨g5, rfl, hg5, hc5⟩ := HCE.out (by omega)
                  have hcy := (hk5.out.cell (p := ⟨g5, i, none⟩) hg5 (fun x => x)).trans (hc5 i y hy)
                  have hiI : (i : Int) < (l.length : Int) := by omega
                  obtain ⟨hyP, hyi⟩ := HIN.out y (List.mem_of_getElem? hy)
                  have A5 := Lib.hid (HFW.out _ hm5 r y hyP hyi)
                  clear hc5 hy hyi
                  go_wp2_with fail
                  refine A5.out.mono ?_
                  rintro e w6 ⟨rfl, hm6, hk6⟩
                  have HK6 : Hid (Keeps (fun _ => False) w4 w6) := hk5.out.trans hk6.out
                  clear A5 hm5 hk5 hk6
                  go_wp2_with fail
                  go_roundg (l.length - (i + 1))
                  case measure => omega
                  case rel => exact ⟨i + 1, by omega, rfl, by go_num, hm6.out, HK6.out⟩
                · obtain rfl : i = l.length := by omega
                  go_wp2_with fail
                  go_roundg (N - (r + 1))
                  case measure => omega
                  case rel => exact ⟨r + 1, by omega, rfl, by go_num, hm5.out⟩
            · obtain rfl : r = N := by omega
              have N1 := fun W => Lib.hid (nil_in W 0 0)
              have N2 := fun W => Lib.hid (nil_members W 0)
              have N3 := fun W => Lib.hid (nil_steps W)
              have N4 : ∀ W, Hid (Calls Tryd.prog 14 #[.pointer none, .agg #[.int .i64 1, .int .i64 0, .int .i64 0, .int .i64 0, .int .i64 0, .int .i64 0]] W (RightPost false W)) := fun W => nil_holds W ⟨1, 0, 0, 0, 0, 0⟩
              have H1 := Lib.hid N1
              have H2 := Lib.hid N2
              have H3 := Lib.hid N3
              have H4 := Lib.hid N4
              have HMR := Lib.hid hmr.out
              clear N1 N2 N3 N4 hmr HFW HKR HKT HNN
              go_wp2_with fail
              refine (H1.out _).out.mono ?_
              rintro e w6 ⟨rfl, rfl⟩
              go_wp2_with fail
              refine (H2.out _).out.mono ?_
              rintro e w6 ⟨rfl, rfl⟩
              go_wp2_with fail
              refine (H3.out _).out.mono ?_
              rintro e w6 ⟨rfl, rfl⟩
              go_wp2_with fail
              refine (H4.out _).out.mono ?_
              rintro e w7 ⟨rfl, hb7⟩
              have HM7 := Lib.hid (HMR.out.quiet (Keeps.of_below hb7 (Nat.le_refl _)))
              have HL := Lib.hid (slives_any _ HM7.out.tab)
              clear hb7 H1 H2 H3 H4 HMR
              go_wp2_with fail
              refine HL.out.mono ?_
              rintro e w9 ⟨rfl, hb9⟩
              have HB9 : Hid (Below w.heap.size w w9) := (HM7.out.quiet (Keeps.of_below hb9 (Nat.le_refl _))).below
              clear hb9 HL HM7
              go_wp2_with fail
              go_ret
              exact ⟨rfl, HB9.out⟩
  · rw [decide_eq_false hsm] at HS
    have HL := Lib.hid (slives_any _ hT0)
    clear hT hT0 hR hk0 hsm hfit
    go_enter Tryd.func4, Tryd.ntmps4
    go_wp2_with fail
    refine HS.out.mono ?_
    rintro e w' ⟨rfl, rfl⟩
    clear HS
    go_wp2_with fail
    refine HL.out.mono ?_
    rintro e w2 ⟨rfl, hb⟩
    have HB : Hid (Below w.heap.size w w2) := (Below.alloc (Below.refl _ _) (Nat.le_refl _) _).trans ((Keeps.of_below (S := fun _ => False) hb (Nat.le_refl _)).below (by simp) (fun _ _ x => x))
    clear hb HL
    go_wp2_with fail
    go_ret
    exact ⟨rfl, HB.out⟩
theorem semModels_core (w : World) (c : Array Value) (hs : c.size = 2) (hf : Fits [.int .i64, .int .i64] 0 c.toList) (ao : Option Addr) (n cap : Nat) (G : Nat → Nat → Value) (R : IsRow w [.int .i64, .int .i64, .int .i64, .int .i64, .int .i64, .int .i64] ao n cap G) (hT : TabIn w) :
    Calls Tryd.prog 4 #[.agg c, .slice ao n cap] w fun e w' => e = .returned (.bool true) ∧ Below w.heap.size w w' := by
  obtain ⟨x, y, rfl⟩ := dims_of_fits hs hf
  obtain ⟨rs, hrs, hR, hfit⟩ := R.rules
  exact semModels_any w x y ao n cap rs hrs hfit R.le hR hT
end Go.Proofs.YtckjgefpelnkoaaDoor
