/-
  The walk of the law SemSteps.
-/
import Derived.Test.YtmljmpjpdgijlaaDoorSemLives
import Derived.Test.YtmljmpjpdgijlaaDoorSemRules
set_option linter.unusedVariables false
set_option linter.unusedSimpArgs false
set_option linter.unnecessarySimpa false
namespace Go.Proofs.YtmljmpjpdgijlaaDoor
open Go.ChangeShapes Go.WideShapes Go.ChangeAt Go.RowKit Go.Deep SetPlain
set_option maxRecDepth 100000 in
set_option maxHeartbeats 1600000 in
theorem semSteps_any (w : World) (d0 d1 : Int) (ao : Option Addr) (n cap : Nat) (rs : List Rl) (hrs : rs.length = n) (hcap : n ≤ cap) (hR : RuleRow w ao rs) (hT : TabIn w) :
    Calls Tryd.prog 6 #[.agg #[.int .i64 d0, .int .i64 d1], .slice ao n cap] w fun e w' => e = .returned (.bool true) ∧ Below w.heap.size w w' := by
  have hk0 : Keeps (fun _ => False) w (w.alloc (.cells #[.int .i64 d0, .int .i64 d1] 27)) := (Keeps.refl _ _).alloc _
  have hb0 : Below w.heap.size w (w.alloc (.cells #[.int .i64 d0, .int .i64 d1] 27)) := (Below.refl _ _).alloc (Nat.le_refl _) _
  have hT0 := hT.keeps hk0 (fun x => x)
  have hR0 := hR.keeps hb0 (fun _ _ _ h => h)
  have HS := Lib.hid (ssmall_spec d0 d1 ao n cap (w.alloc (.cells #[.int .i64 d0, .int .i64 d1] 27)))
  by_cases hsm : d0 ≤ 10 ∧ d1 ≤ 6 ∧ n ≤ 60
  · rw [decide_eq_true hsm] at HS
    obtain ⟨hs0, hs1, hs2⟩ := hsm
    obtain ⟨P, hP⟩ := within_cases d0 64
    obtain ⟨K, hK⟩ := within_cases d1 64
    have hN : Within (n : Int) 10000 n := by unfold Within; omega
    have hPl : P ≤ 10 := by unfold Within at hP; omega
    have hKl : K ≤ 6 := by unfold Within at hK; omega
    obtain ⟨a, ha⟩ : ∃ a, P + 1 = a := ⟨_, rfl⟩
    obtain ⟨b, hb⟩ : ∃ b, K + 1 = b := ⟨_, rfl⟩
    obtain ⟨c, hc⟩ : ∃ c, n + 1 = c := ⟨_, rfl⟩
    obtain ⟨x1, x2, x3, x4, x5, x6, hx⟩ := prods a b c (by omega) (by omega) (by omega)
    have HBd := fun W => Lib.hid (sbound_spec d0 d1 n P K n a b c x1 x2 x3 x4 x5 x6 hP hK hN ha hb hc hx W)
    have HBD := Lib.hid HBd
    have HEV : Hid (∀ W, Keeps (fun _ => False) (w.alloc (.cells #[.int .i64 d0, .int .i64 d1] 27)) W → Calls Tryd.prog 29 #[.int .i64 d0, .int .i64 d1, .slice ao n cap] W (EvalPost P K rs W)) := fun W hk => by
      have := seval_spec d0 d1 P K hP hK rs (by omega) ao cap W (hR0.keeps (hk.below (Nat.le_refl _) (fun _ _ x => x)) (fun _ _ _ h => h)) (by omega) (hT0.keeps hk (fun x => x))
      rw [hrs] at this
      exact this
    have HT := Lib.hid hT0
    obtain ⟨e1, e2, e3, e4, e5, e6, heq⟩ := hx
    have HEQ := Lib.hid heq
    have HX := Lib.hid (And.intro hP hK)
    have f1 : IntKind.i64.wrap ((P : Int) + 1) = (a : Int) := (IntWalk.i64_in _ (by omega)).trans (by omega)
    have f2 : IntKind.i64.wrap ((K : Int) + 1) = (b : Int) := (IntWalk.i64_in _ (by omega)).trans (by omega)
    have f3 : IntKind.i64.wrap ((n : Int) + 1) = (c : Int) := (IntWalk.i64_in _ (by omega)).trans (by omega)
    have HA := Lib.hid (And.intro ha (And.intro hb hc))
    clear hN heq ha hb hc hT hT0 hR hR0 hk0 hb0 HBd hP hK
    go_enter Tryd.func6, Tryd.ntmps6
    go_wp2_with fail
    refine HS.out.mono ?_
    rintro e w' ⟨rfl, rfl⟩
    clear HS
    go_upto_region 3 with fail
    go_cut [5, 6, 7] (fun s t u wx => s = .int .i64 a ∧ t = .int .i64 b ∧ u = .int .i64 c ∧ wx = (w.alloc (.cells #[.int .i64 d0, .int .i64 d1] 27)).drew)
    case first =>
      obtain ⟨hP, hK⟩ := HX.out
      have hP' : d0 < 0 ∧ P = 0 ∨ d0 = (P : Int) := by unfold Within at hP; omega
      have hK' : d1 < 0 ∧ K = 0 ∨ d1 = (K : Int) := by unfold Within at hK; omega
      rcases hP' with ⟨hp, rfl⟩ | rfl
      · obtain rfl : a = 1 := by have := HA.out; omega
        rcases hK' with ⟨hk, rfl⟩ | rfl
        · obtain rfl : b = 1 := by have := HA.out; omega
          clear HBD HEV HT HEQ HX HA e1 e2 e3 e4 e5 e6 hP hK
          go_region
          all_goals (go_wp2_with fail; go_meet; exact ⟨rfl, rfl, rfl, rfl⟩)
        · have hk : (0 : Int) ≤ (K : Int) := by omega
          clear HBD HEV HT HEQ HX HA e1 e2 e3 e4 e5 e6 hP hK
          go_region
          all_goals (go_wp2_with fail; go_meet; exact ⟨rfl, rfl, rfl, rfl⟩)
      · have hp : (0 : Int) ≤ (P : Int) := by omega
        rcases hK' with ⟨hk, rfl⟩ | rfl
        · obtain rfl : b = 1 := by have := HA.out; omega
          clear HBD HEV HT HEQ HX HA e1 e2 e3 e4 e5 e6 hP hK
          go_region
          all_goals (go_wp2_with fail; go_meet; exact ⟨rfl, rfl, rfl, rfl⟩)
        · have hk : (0 : Int) ≤ (K : Int) := by omega
          clear HBD HEV HT HEQ HX HA e1 e2 e3 e4 e5 e6 hP hK
          go_region
          all_goals (go_wp2_with fail; go_meet; exact ⟨rfl, rfl, rfl, rfl⟩)
    case rest =>
      obtain ⟨rfl, rfl, rfl, rfl⟩ := hcut
      have HE := Lib.hid (HEV.out _ ((Keeps.refl _ _).drew))
      go_wp2_with fail
      refine (HBD.out _).out.mono ?_
      rintro e w' ⟨rfl, rfl⟩
      clear HBD HEV
      go_wp2_with fail
      refine HE.out.mono ?_
      rintro e w2 ⟨mo, rfl, hl⟩
      obtain ⟨fb, bw, rb, In, tot, steps, hm⟩ := hl.out
      have hle : steps ≤ x6 := by
        have h1 := hm.most
        rw [hrs, HA.out.1, HA.out.2.1, HA.out.2.2, ← HEQ.out] at h1
        exact h1
      have hst := Lib.hid hm.steps_spec
      have hb1 : Below w.heap.size w w2 := (Below.alloc (Below.refl _ _) (Nat.le_refl _) _).trans ((((Keeps.refl (fun _ => False) _).drew).trans (Keeps.of_below (S := fun _ => False) hm.base (Nat.le_refl _))).below (by simp) (fun _ _ x => x))
      have HB1 := Lib.hid hb1
      have HT2 : TabIn w2 := HT.out.below (((Below.refl (w.alloc (.cells #[.int .i64 d0, .int .i64 d1] 27)).heap.size _).drew).trans hm.base) HT.out.lt
      have HL := Lib.hid (slives_any _ HT2)
      have hleI : (steps : Int) ≤ (x6 : Int) := by omega
      clear hm hl hb1 HT2 HE HT HEQ HX HA
      go_wp2_with fail
      refine hst.out.mono ?_
      rintro e w3 ⟨rfl, rfl⟩
      clear hst
      go_wp2_with fail
      refine HL.out.mono ?_
      rintro e w3 ⟨rfl, hb3⟩
      have HB : Hid (Below w.heap.size w w3) := HB1.out.trans ((Keeps.of_below (S := fun _ => False) hb3 (Nat.le_refl _)).below HB1.out.size (fun _ _ x => x))
      clear hb3 HL HB1
      go_wp2_with fail
      go_ret
      exact ⟨by rfl, HB.out⟩
  · rw [decide_eq_false hsm] at HS
    have HL := Lib.hid (slives_any _ hT0)
    clear hT hT0 hR hR0 hk0 hb0 hsm
    go_enter Tryd.func6, Tryd.ntmps6
    go_wp2_with fail
    refine HS.out.mono ?_
    rintro e w' ⟨rfl, rfl⟩
    clear HS
    go_wp2_with fail
    refine HL.out.mono ?_
    rintro e w2 ⟨rfl, hb⟩
    have HB : Hid (Below w.heap.size w w2) := (Below.alloc (Below.refl _ _) (Nat.le_refl _) _).trans ((Keeps.of_below (S := fun _ => False) hb (Nat.le_refl _)).below (by simp) (fun _ _ x => x))
    clear hb HL
    go_wp2_with fail
    go_ret
    exact ⟨rfl, HB.out⟩
theorem semSteps_core (w : World) (c : Array Value) (hs : c.size = 2) (hf : Fits [.int .i64, .int .i64] 0 c.toList) (ao : Option Addr) (n cap : Nat) (G : Nat → Nat → Value) (R : IsRow w [.int .i64, .int .i64, .int .i64, .int .i64, .int .i64, .int .i64] ao n cap G) (hT : TabIn w) :
    Calls Tryd.prog 6 #[.agg c, .slice ao n cap] w fun e w' => e = .returned (.bool true) ∧ Below w.heap.size w w' := by
  obtain ⟨x, y, rfl⟩ := dims_of_fits hs hf
  obtain ⟨rs, hrs, hR, _⟩ := R.rules
  exact semSteps_any w x y ao n cap rs hrs R.le hR hT
end Go.Proofs.YtmljmpjpdgijlaaDoor
