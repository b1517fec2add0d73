/-
  The walk of the law SemLeast.
-/
import Derived.Test.YtckjgefpelnkoaaDoorRefEval
import Derived.Test.YtckjgefpelnkoaaDoorRefHolds
import Derived.Deep.RegionHeld3
set_option linter.unusedVariables false
set_option linter.unusedSimpArgs false
set_option linter.unnecessarySimpa false
namespace Go.Proofs.YtckjgefpelnkoaaDoor
open Go.ChangeShapes Go.WideShapes Go.ChangeAt Go.RowKit Go.Deep SetPlain
/-- The document's Eval, from a world on in which only new memory is written. -/
theorem reval_keep {p k : Int} {P K : Nat} (hP : Within p 64 P) (hK : Within k 64 K) (hp : p ≤ 64) (hk0 : k ≤ 64) {rs : List Rl} {n : Nat} (hrs : rs.length = n) (hn : n ≤ 1000) {ao : Option Addr} {cap : Nat} (hcap : n ≤ cap) {W : World} (hR : RuleRow W ao rs) :
    Calls Tryd.prog 8 #[.int .i64 p, .int .i64 k, .slice ao n cap] W fun e W' => ∃ b, e = .returned (.pointer (some ⟨b, 0, none⟩)) ∧ Hid (∃ ao1 cap1 rb In, RefM W' b ao1 cap1 rb P K (P * K) In ∧ ∀ i c, In i c = true ↔ Der K (rs.filter (fun r => rightB P K r)) i c) ∧ Hid (Keeps (fun _ => False) W W') := by
  refine (reval_spec p k P K hP hK hp hk0 rs n hrs hn ao cap W hR hcap).mono ?_
  rintro e W' ⟨b, rfl, hl⟩
  obtain ⟨ao1, cap1, rb, In, hre, hsnd, hder⟩ := hl.out
  exact ⟨b, rfl, ⟨ao1, cap1, rb, In, hre.mem, fun i c => ⟨fun h => (hsnd i c h).2.2, hder i c⟩⟩, Keeps.of_below hre.base (Nat.le_refl _)⟩
theorem rl_of_fits {c : Array Value} (hs : c.size = 6) (hf : Fits [.int .i64, .int .i64, .int .i64, .int .i64, .int .i64, .int .i64] 0 c.toList) : ∃ r : Rl, c = r.cells.toArray ∧ r.Fits := by
  obtain ⟨l⟩ := c
  match l, hs with
  | [a0, a1, a2, a3, a4, a5], _ =>
    obtain ⟨v0, h0, x0, rfl, w0⟩ := hf 0 _ rfl
    obtain ⟨v1, h1, x1, rfl, w1⟩ := hf 1 _ rfl
    obtain ⟨v2, h2, x2, rfl, w2⟩ := hf 2 _ rfl
    obtain ⟨v3, h3, x3, rfl, w3⟩ := hf 3 _ rfl
    obtain ⟨v4, h4, x4, rfl, w4⟩ := hf 4 _ rfl
    obtain ⟨v5, h5, x5, rfl, w5⟩ := hf 5 _ rfl
    simp at h0 h1 h2 h3 h4 h5
    subst h0; subst h1; subst h2; subst h3; subst h4; subst h5
    exact ⟨⟨x0, x1, x2, x3, x4, x5⟩, rfl, bounds_i64 w0, bounds_i64 w1, bounds_i64 w2, bounds_i64 w3, bounds_i64 w4, bounds_i64 w5⟩
def LeastS (w : World) (d0 d1 : Int) (kind head who a b via : Int) (W : World) : Prop :=
  W.cell? ⟨w.heap.size, 0, none⟩ = some (.int .i64 d0) ∧ W.cell? ⟨w.heap.size, 1, none⟩ = some (.int .i64 d1) ∧ RlAt W (w.heap.size + 1) ⟨kind, head, who, a, b, via⟩
set_option maxRecDepth 100000 in
set_option maxHeartbeats 3200000 in
theorem semLeast_any (w : World) (d0 d1 : Int) (ao : Option Addr) (n cap : Nat) (rs : List Rl) (hrs : rs.length = n) (hcap : n ≤ cap) (hR : RuleRow w ao rs) (kind head who a b via : Int) (hfit : I64 who) (hT : TabIn w) :
    Calls Tryd.prog 3 #[.agg #[.int .i64 d0, .int .i64 d1], .slice ao n cap, .agg #[.int .i64 kind, .int .i64 head, .int .i64 who, .int .i64 a, .int .i64 b, .int .i64 via]] w fun e w' => e = .returned (.bool true) ∧ Below w.heap.size w w' := by
  obtain ⟨W0, hW0⟩ : ∃ W0, W0 = (w.alloc (.cells #[.int .i64 d0, .int .i64 d1] 22)).alloc (.cells #[.int .i64 kind, .int .i64 head, .int .i64 who, .int .i64 a, .int .i64 b, .int .i64 via] 25) := ⟨_, rfl⟩
  have hk0 : Keeps (fun _ => False) w W0 := by rw [hW0]; exact ((Keeps.refl _ _).alloc _).alloc _
  have hS0 : LeastS w d0 d1 kind head who a b via W0 := by
    rw [hW0]
    unfold LeastS RlAt
    refine ⟨?_, ?_, ?_, ?_, ?_, ?_, ?_, ?_⟩ <;> simp [World.cell?_alloc_past]
  have hT0 := hT.keeps hk0 (fun x => x)
  have HS := Lib.hid (ssmall_spec d0 d1 ao n cap W0)
  have HKB : Hid (∀ W, Keeps (fun _ => False) W0 W → Below w.heap.size w W) := fun W hk => (hk0.trans hk).below (Nat.le_refl _) (fun _ _ x => x)
  have HKT : Hid (∀ W, Keeps (fun _ => False) W0 W → TabIn W) := fun W hk => hT0.keeps hk (fun x => x)
  by_cases hsm : d0 ≤ 10 ∧ d1 ≤ 6 ∧ n ≤ 60
  · rw [decide_eq_true hsm] at HS
    obtain ⟨hs0, hs1, hs2⟩ := hsm
    obtain ⟨P, hP⟩ := within_cases d0 64
    obtain ⟨K, hK⟩ := within_cases d1 64
    have hPl : P ≤ 10 := by unfold Within at hP; omega
    have hKl : K ≤ 6 := by unfold Within at hK; omega
    have HKR : Hid (∀ W, Keeps (fun _ => False) W0 W → RuleRow W ao rs) := fun W hk => hR.keeps (HKB.out W hk) (fun _ _ _ h => h)
    have HKS : Hid (∀ W, Hid (Keeps (fun _ => False) W0 W) → (fun w' : World => w'.cell? ⟨w.heap.size, 0, none⟩ = some (.int .i64 d0) ∧ w'.cell? ⟨w.heap.size, 1, none⟩ = some (.int .i64 d1) ∧ w'.cell? ⟨w.heap.size + 1, 0, none⟩ = some (.int .i64 kind) ∧ w'.cell? ⟨w.heap.size + 1, 1, none⟩ = some (.int .i64 head) ∧ w'.cell? ⟨w.heap.size + 1, 2, none⟩ = some (.int .i64 who) ∧ w'.cell? ⟨w.heap.size + 1, 3, none⟩ = some (.int .i64 a) ∧ w'.cell? ⟨w.heap.size + 1, 4, none⟩ = some (.int .i64 b) ∧ w'.cell? ⟨w.heap.size + 1, 5, none⟩ = some (.int .i64 via)) W) := fun W hk => by
      obtain ⟨s0, s1, s2, s3, s4, s5, s6, s7⟩ := hS0
      have l0 : w.heap.size < W0.heap.size := lt_of_cell s0
      have l1 : w.heap.size + 1 < W0.heap.size := lt_of_cell s2
      have c0 : ∀ i, W.cell? ⟨w.heap.size, i, none⟩ = W0.cell? ⟨w.heap.size, i, none⟩ := fun i => hk.out.cell (p := ⟨w.heap.size, i, none⟩) l0 (fun x => x)
      have c1 : ∀ i, W.cell? ⟨w.heap.size + 1, i, none⟩ = W0.cell? ⟨w.heap.size + 1, i, none⟩ := fun i => hk.out.cell (p := ⟨w.heap.size + 1, i, none⟩) l1 (fun x => x)
      exact ⟨(c0 0).trans s0, (c0 1).trans s1, (c1 0).trans s2, (c1 1).trans s3, (c1 2).trans s4, (c1 3).trans s5, (c1 4).trans s6, (c1 5).trans s7⟩
    have HE1 : Hid (∀ W, Hid (Keeps (fun _ => False) W0 W) → Calls Tryd.prog 7 #[.int .i64 d0, .int .i64 d1, .slice ao n cap] W fun e W' => ∃ mo, e = .returned (.pointer (some ⟨mo, 0, none⟩)) ∧ Hid (∃ fb bw rb tot steps In, Mdl mo fb bw rb P K tot steps In W' ∧ ∀ i c, In i c = true ↔ Der K (rs.filter (fun r => rightB P K r)) i c) ∧ Hid (Keeps (fun _ => False) W0 W')) := fun W hk => eval_keep hP hK hrs (by omega) hcap hk.out (HKR.out W hk.out) (HKT.out W hk.out)
    have HE2 : Hid (∀ W, Hid (Keeps (fun _ => False) W0 W) → Calls Tryd.prog 8 #[.int .i64 d0, .int .i64 d1, .slice ao n cap] W fun e W' => ∃ b, e = .returned (.pointer (some ⟨b, 0, none⟩)) ∧ Hid (∃ ao1 cap1 rb In, RefM W' b ao1 cap1 rb P K (P * K) In ∧ ∀ i c, In i c = true ↔ Der K (rs.filter (fun r => rightB P K r)) i c) ∧ Hid (Keeps (fun _ => False) W0 W') ∧ Hid (Keeps (fun _ => False) W W')) := fun W hk =>
      (reval_keep hP hK (by omega) (by omega) hrs (by omega) hcap (HKR.out W hk.out)).mono fun e W' ⟨b, he, hm, hk2⟩ => ⟨b, he, hm, hk.out.trans hk2.out, hk2⟩
    have HK0 : Hid (Keeps (fun _ => False) W0 W0.drew) := (Keeps.refl _ _).drew
    obtain ⟨s0, s1, s2, s3, s4, s5, s6, s7⟩ := HKS.out W0 (Keeps.refl _ _)
    have HW0 := Lib.hid hW0
    clear hk0 hT0 hT hR hP hK hS0 hW0
    go_enter Tryd.func3, Tryd.ntmps3
    go_upto_region 1 with fail
    rw [← HW0.out]
    clear HW0
    go_wp2_with fail
    refine HS.out.mono ?_
    rintro e w' ⟨rfl, rfl⟩
    clear HS
    go_upto_region 3 with fail
    clear s0 s1 s2 s3 s4 s5 s6 s7
    go_region_held3 (fun w' => w'.cell? ⟨w.heap.size, 0, none⟩ = some (.int .i64 d0) ∧ w'.cell? ⟨w.heap.size, 1, none⟩ = some (.int .i64 d1) ∧ w'.cell? ⟨w.heap.size + 1, 0, none⟩ = some (.int .i64 kind) ∧ w'.cell? ⟨w.heap.size + 1, 1, none⟩ = some (.int .i64 head) ∧ w'.cell? ⟨w.heap.size + 1, 2, none⟩ = some (.int .i64 who) ∧ w'.cell? ⟨w.heap.size + 1, 3, none⟩ = some (.int .i64 a) ∧ w'.cell? ⟨w.heap.size + 1, 4, none⟩ = some (.int .i64 b) ∧ w'.cell? ⟨w.heap.size + 1, 5, none⟩ = some (.int .i64 via)) (exact HKS.out _ (by assumption)) (first | (go_at_call 7; refine (HE1.out _ (by assumption)).mono ?_; rintro e wA ⟨mo, rfl, hma, hka⟩) | (go_at_call 8; refine (HE2.out _ (by assumption)).mono ?_; rintro e wB ⟨xb, rfl, hmb, hkb, hkab⟩))
    obtain ⟨fb, bw, rbm, tot, steps, In, hM0, hDa⟩ := hma.out
    obtain ⟨ao1, cap1, rb, In2, hX0, hDb⟩ := hmb.out
    have hab : In2 = In := by
      funext i c
      have h1 : In2 i c = true ↔ In i c = true := by rw [hDa, hDb]
      cases h2 : In2 i c with
      | true => exact (h1.1 h2).symm
      | false => cases h3 : In i c with
        | true => rw [h1.2 h3] at h2; cases h2
        | false => rfl
    subst hab
    have hM := hM0.keeps hkab.out
    obtain ⟨N, hN⟩ : ∃ N, P * K = N := ⟨_, rfl⟩
    have hNl : N ≤ 60 := by rw [← hN]; exact Nat.le_trans (Nat.mul_le_mul hPl hKl) (by decide)
    rw [hN] at hX0
    have HKF : Hid (∀ W, Hid (Keeps (fun _ => False) wB W) → Hid (Keeps (fun _ => False) W0 W)) := fun W hk => hkb.out.trans hk.out
    have HIN : Hid (∀ W, Hid (Keeps (fun _ => False) wB W) → ∀ i c : Int, -9223372036854775808 ≤ c → c ≤ 9223372036854775807 → Calls Tryd.prog 9 #[.pointer (some ⟨mo, 0, none⟩), .int .i64 i, .int .i64 c] W fun e W' => e = .returned (.bool (hasB N P In2 i c)) ∧ W = W') := fun W hk i c h0 h1 => by
      have := (hM.keeps hk.out).in_spec i c h0 h1
      rw [hN] at this
      exact this
    have HHAS : Hid (∀ W, Hid (Keeps (fun _ => False) wB W) → ∀ i c : Int, Calls Tryd.prog 10 #[.pointer (some ⟨xb, 0, none⟩), .int .i64 i, .int .i64 c] W fun e W' => e = .returned (.bool (hasB N P In2 i c)) ∧ W = W') := fun W hk i c => rhas_spec (hX0.keeps hk.out) i c
    have HML : Hid (∀ W, Hid (Keeps (fun _ => False) wB W) → ∀ i : Int, Calls Tryd.prog 12 #[.pointer (some ⟨mo, 0, none⟩), .int .i64 i] W fun e W' => ∃ ao' cap', e = .returned (.slice ao' (listTo (rowP N In2 i) P).length cap') ∧ Hid (ReadsL W' (.slice ao' (listTo (rowP N In2 i) P).length cap') (listTo (rowP N In2 i) P)) ∧ Hid (Keeps (fun _ => False) wB W')) := fun W hk i => by
      have := (hM.keeps hk.out).list_spec (HKT.out W (HKF.out W hk).out) i
      rw [hN] at this
      refine this.mono ?_
      rintro e W' ⟨v, rfl, hr, hb⟩
      have hr2 := hr
      obtain ⟨ao', cap', rfl, _⟩ := hr2
      exact ⟨ao', cap', rfl, hr, hk.out.trans (Keeps.of_below hb (Nat.le_refl _))⟩
    have HXL : Hid (∀ W, Hid (Keeps (fun _ => False) wB W) → ∀ i : Int, Calls Tryd.prog 13 #[.pointer (some ⟨xb, 0, none⟩), .int .i64 i] W fun e W' => ∃ ao' cap', e = .returned (.slice ao' (listTo (rowP N In2 i) P).length cap') ∧ Hid (ReadsL W' (.slice ao' (listTo (rowP N In2 i) P).length cap') (listTo (rowP N In2 i) P)) ∧ Hid (Keeps (fun _ => False) wB W') ∧ Hid (Keeps (fun _ => False) W W')) := fun W hk i => by
      refine (rmembers_spec (hX0.keeps hk.out) (by omega) i).mono ?_
      rintro e W' ⟨v, rfl, hown, hb⟩
      have hr := ReadsL.of_own hown
      have hr2 := hr
      obtain ⟨ao', cap', rfl, _⟩ := hr2
      exact ⟨ao', cap', rfl, hr, hk.out.trans (Keeps.of_below hb (Nat.le_refl _)), Keeps.of_below hb (Nat.le_refl _)⟩
    have HSM : Hid (∀ W u v l, Hid (Keeps (fun _ => False) wB W) → ReadsL W u l → ReadsL W v l → l.length ≤ 1000000 → Calls Tryd.prog 11 #[u, v] W fun e W' => e = .returned (.bool true) ∧ Hid (Keeps (fun _ => False) wB W')) := fun W u v l hk hu hv hl =>
      (same_spec hu hv hl hl).mono fun e W' ⟨he, nq, hw⟩ => ⟨by rw [he]; simp, by rw [hw]; exact hk.out.trans ((Keeps.refl _ _).drewN _)⟩
    obtain ⟨hv, hhv⟩ : ∃ v, holdsB P K In2 ⟨kind, head, who, a, b, via⟩ = v := ⟨_, rfl⟩
    have HMH : Hid (∀ W, Hid (Keeps (fun _ => False) wB W) → Calls Tryd.prog 14 #[.pointer (some ⟨mo, 0, none⟩), .agg #[.int .i64 kind, .int .i64 head, .int .i64 who, .int .i64 a, .int .i64 b, .int .i64 via]] W fun e W' => e = .returned (.bool hv) ∧ Hid (Keeps (fun _ => False) wB W')) := fun W hk => by
      rw [← hhv]
      exact (hold_spec (hM.keeps hk.out) (HKT.out W (HKF.out W hk).out) (by omega) (by omega) ⟨kind, head, who, a, b, via⟩ hfit).mono fun e W' ⟨he, hb⟩ => ⟨he, hk.out.trans (Keeps.of_below hb (Nat.le_refl _))⟩
    have HXH : Hid (∀ W, Hid (Keeps (fun _ => False) wB W) → Calls Tryd.prog 15 #[.pointer (some ⟨xb, 0, none⟩), .agg #[.int .i64 kind, .int .i64 head, .int .i64 who, .int .i64 a, .int .i64 b, .int .i64 via]] W fun e W' => e = .returned (.bool hv) ∧ Hid (Keeps (fun _ => False) wB W')) := fun W hk => by
      rw [← hhv]
      exact (rholds_spec (hX0.keeps hk.out) hN.symm (by omega) (by omega) ⟨kind, head, who, a, b, via⟩).mono fun e W' ⟨he, hb⟩ => ⟨he, hk.out.trans (Keeps.of_below hb (Nat.le_refl _))⟩
    have HLV : Hid (∀ W, Hid (Keeps (fun _ => False) wB W) → Calls Tryd.prog 6 #[] W fun e W' => e = .returned (.bool true) ∧ Hid (Keeps (fun _ => False) wB W')) := fun W hk =>
      (slives_any W (HKT.out W (HKF.out W hk).out)).mono fun e W' ⟨he, hb⟩ => ⟨he, hk.out.trans (Keeps.of_below hb (Nat.le_refl _))⟩
    have HXC : Hid (∀ W, Hid (Keeps (fun _ => False) wB W) → W.cell? ⟨xb, 0, none⟩ = some (.int .i64 P) ∧ W.cell? ⟨xb, 2, none⟩ = some (.slice ao1 N cap1)) := fun W hk => ⟨(hX0.keeps hk.out).cells.1, (hX0.keeps hk.out).cells.2.2⟩
    have HKB2 : Hid (∀ W, Hid (Keeps (fun _ => False) wB W) → Below w.heap.size w W) := fun W hk => HKB.out W (HKF.out W hk).out
    have HKS2 : Hid (∀ W, Hid (Keeps (fun _ => False) wB W) → (fun w' : World => w'.cell? ⟨w.heap.size + 1, 0, none⟩ = some (.int .i64 kind) ∧ w'.cell? ⟨w.heap.size + 1, 1, none⟩ = some (.int .i64 head) ∧ w'.cell? ⟨w.heap.size + 1, 2, none⟩ = some (.int .i64 who) ∧ w'.cell? ⟨w.heap.size + 1, 3, none⟩ = some (.int .i64 a) ∧ w'.cell? ⟨w.heap.size + 1, 4, none⟩ = some (.int .i64 b) ∧ w'.cell? ⟨w.heap.size + 1, 5, none⟩ = some (.int .i64 via)) W) := fun W hk => (HKS.out W (HKF.out W hk)).2.2
    have HREF : Hid (Keeps (fun _ => False) wB wB) := Keeps.refl _ _
    clear hma hka hmb hkb hkab hM0 hM hX0 hDa hDb hhv HE1 HE2 HK0 HKS HKR HKT HKB HKF hN
    go_wp2_with fail
    go_loopg [9] (N + 2) (fun g t wr => ∃ (r : Nat) (role : Int), r ≤ N + 2 ∧ g = N + 2 - r ∧ Hid (role = (r : Int) - 1) ∧ t = .int .i64 role ∧ Hid (Keeps (fun _ => False) wB wr))
    case atStart => exact ⟨0, -1, Nat.zero_le _, rfl, Lib.hid (by decide), rfl, HREF.out⟩
    case round =>
      clear HREF
      obtain ⟨r, role, hr, rfl, hrole, rfl, hk⟩ := hrel
      obtain ⟨xc0, xc2⟩ := HXC.out _ hk
      by_cases hlt : r < N + 2
      · have hle : role ≤ (N : Int) := by have := hrole.out; omega
        go_wp2_with fail
        go_loopg [10] (P + 2) (fun g t wy => ∃ (q : Nat) (c : Int), q ≤ P + 2 ∧ g = P + 2 - q ∧ Hid (c = (q : Int) - 1) ∧ t = .int .i64 c ∧ wy = wr)
        case atStart => exact ⟨0, -1, Nat.zero_le _, rfl, Lib.hid (by decide), rfl, rfl⟩
        case round =>
          obtain ⟨q, c, hq, rfl, hc, rfl, rfl⟩ := hrel
          by_cases hlt2 : q < P + 2
          · have hcle : c ≤ (P : Int) := by have := hc.out; omega
            have A1 := Lib.hid (HIN.out _ hk role c (by have := hc.out; omega) (by have := hc.out; omega))
            have A2 := Lib.hid (HHAS.out _ hk role c)
            obtain ⟨c2, hc2⟩ : ∃ c2, c + 1 = c2 := ⟨_, rfl⟩
            have hw : IntKind.i64.wrap (c + 1) = c2 := (IntWalk.i64_in _ (by have := hc.out; omega)).trans hc2
            have HC2 := Lib.hid hc2
            clear hc2
            cases hb : hasB N P In2 role c with
            | true =>
              rw [hb] at A1 A2
              clear hb
              go_wp2_with fail
              refine A1.out.mono ?_
              rintro e w5 ⟨rfl, rfl⟩
              clear A1
              go_wp2_with fail
              refine A2.out.mono ?_
              rintro e w5 ⟨rfl, rfl⟩
              clear A2
              go_wp2_with fail
              go_roundg (P + 2 - (q + 1))
              case measure => omega
              case rel => exact ⟨q + 1, c2, by omega, rfl, (by have := HC2.out; have := hc.out; omega : c2 = ((q + 1 : Nat) : Int) - 1), rfl, rfl⟩
            | false =>
              rw [hb] at A1 A2
              clear hb
              go_wp2_with fail
              refine A1.out.mono ?_
              rintro e w5 ⟨rfl, rfl⟩
              clear A1
              go_wp2_with fail
              refine A2.out.mono ?_
              rintro e w5 ⟨rfl, rfl⟩
              clear A2
              go_wp2_with fail
              go_roundg (P + 2 - (q + 1))
              case measure => omega
              case rel => exact ⟨q + 1, c2, by omega, rfl, (by have := HC2.out; have := hc.out; omega : c2 = ((q + 1 : Nat) : Int) - 1), rfl, rfl⟩
          · have hcle : ¬ c ≤ (P : Int) := by have := hc.out; omega
            have A1 := Lib.hid (HML.out _ hk role)
            have HXr : Hid (∀ W, Hid (Keeps (fun _ => False) wB W) → Calls Tryd.prog 13 #[.pointer (some ⟨xb, 0, none⟩), .int .i64 role] W fun e W' => ∃ ao' cap', e = .returned (.slice ao' (listTo (rowP N In2 role) P).length cap') ∧ Hid (ReadsL W' (.slice ao' (listTo (rowP N In2 role) P).length cap') (listTo (rowP N In2 role) P)) ∧ Hid (Keeps (fun _ => False) wB W') ∧ Hid (Keeps (fun _ => False) W W')) := fun W hk => HXL.out W hk role
            have hll : (listTo (rowP N In2 role) P).length ≤ 1000000 := by rw [listTo_len]; exact Nat.le_trans (cnt_le _ _) (by omega)
            generalize listTo (rowP N In2 role) P = l at A1 HXr hll
            obtain ⟨role2, hr2⟩ : ∃ c2, role + 1 = c2 := ⟨_, rfl⟩
            have hw : IntKind.i64.wrap (role + 1) = role2 := (IntWalk.i64_in _ (by have := hrole.out; omega)).trans hr2
            have HR2 := Lib.hid hr2
            clear hr2
            go_wp2_with fail
            refine A1.out.mono ?_
            rintro e w5 ⟨ao5, cap5, rfl, hr5, hk5⟩
            clear A1
            go_wp2_with fail
            refine (HXr.out _ hk5).mono ?_
            rintro e w6 ⟨ao6, cap6, rfl, hr6, hk6, hk56⟩
            have A3 := Lib.hid (HSM.out w6 _ _ l hk6 (hr5.out.keeps hk56.out) hr6.out hll)
            clear HXr hr5 hr6 hk5 hk56
            go_wp2_with fail
            refine A3.out.mono ?_
            rintro e w7 ⟨rfl, hk7⟩
            clear A3 hk6
            go_wp2_with fail
            go_roundg (N + 2 - (r + 1))
            case measure => omega
            case rel => exact ⟨r + 1, role2, by omega, rfl, (by have := HR2.out; have := hrole.out; omega : role2 = ((r + 1 : Nat) : Int) - 1), rfl, hk7.out⟩
      · have hle : ¬ role ≤ (N : Int) := by have := hrole.out; omega
        have HKD : Hid (Keeps (fun _ => False) wB wr.drew) := hk.out.trans ((Keeps.refl _ _).drew)
        clear HIN HHAS HML HXL HSM HXC
        go_upto_region 14 with fail
        clear xc0 xc2
        cases hv with
        | true =>
          go_region_held3 (fun w' => w'.cell? ⟨w.heap.size + 1, 0, none⟩ = some (.int .i64 kind) ∧ w'.cell? ⟨w.heap.size + 1, 1, none⟩ = some (.int .i64 head) ∧ w'.cell? ⟨w.heap.size + 1, 2, none⟩ = some (.int .i64 who) ∧ w'.cell? ⟨w.heap.size + 1, 3, none⟩ = some (.int .i64 a) ∧ w'.cell? ⟨w.heap.size + 1, 4, none⟩ = some (.int .i64 b) ∧ w'.cell? ⟨w.heap.size + 1, 5, none⟩ = some (.int .i64 via)) (exact HKS2.out _ (by assumption)) (first | (go_at_call 14; refine (HMH.out _ (by assumption)).mono ?_; rintro e w7 ⟨rfl, hk7⟩) | (go_at_call 15; refine (HXH.out _ (by assumption)).mono ?_; rintro e w8 ⟨rfl, hk8⟩) | (go_at_call 6; refine (HLV.out _ (by assumption)).mono ?_; rintro e w9 ⟨rfl, hk9⟩))
          have HB := Lib.hid (HKB2.out _ hk9)
          clear HKS2 HMH HXH HLV hk7 hk8 hk9 HKB2 hk HKD
          go_wp2_with fail
          go_ret
          exact ⟨by rfl, HB.out⟩
        | false =>
          go_region_held3 (fun w' => w'.cell? ⟨w.heap.size + 1, 0, none⟩ = some (.int .i64 kind) ∧ w'.cell? ⟨w.heap.size + 1, 1, none⟩ = some (.int .i64 head) ∧ w'.cell? ⟨w.heap.size + 1, 2, none⟩ = some (.int .i64 who) ∧ w'.cell? ⟨w.heap.size + 1, 3, none⟩ = some (.int .i64 a) ∧ w'.cell? ⟨w.heap.size + 1, 4, none⟩ = some (.int .i64 b) ∧ w'.cell? ⟨w.heap.size + 1, 5, none⟩ = some (.int .i64 via)) (exact HKS2.out _ (by assumption)) (first | (go_at_call 14; refine (HMH.out _ (by assumption)).mono ?_; rintro e w7 ⟨rfl, hk7⟩) | (go_at_call 15; refine (HXH.out _ (by assumption)).mono ?_; rintro e w8 ⟨rfl, hk8⟩) | (go_at_call 6; refine (HLV.out _ (by assumption)).mono ?_; rintro e w9 ⟨rfl, hk9⟩))
          have HB := Lib.hid (HKB2.out _ hk9)
          clear HKS2 HMH HXH HLV hk7 hk8 hk9 HKB2 hk HKD
          go_wp2_with fail
          go_ret
          exact ⟨by rfl, HB.out⟩
  · rw [decide_eq_false hsm] at HS
    have HL := Lib.hid (slives_any _ hT0)
    have hk1 := hk0
    obtain ⟨s0, s1, _⟩ := hS0
    have HW0 := Lib.hid hW0
    clear hT hT0 hR hsm hW0 hk0 HKT
    go_enter Tryd.func3, Tryd.ntmps3
    go_upto_region 1 with fail
    rw [← HW0.out]
    clear HW0
    go_wp2_with fail
    refine HS.out.mono ?_
    rintro e w' ⟨rfl, rfl⟩
    clear HS
    go_wp2_with fail
    refine HL.out.mono ?_
    rintro e w2 ⟨rfl, hb⟩
    have HB := Lib.hid (HKB.out _ (Keeps.of_below hb (Nat.le_refl _)))
    clear hb HL HKB
    go_wp2_with fail
    go_ret
    exact ⟨rfl, HB.out⟩
theorem semLeast_core (w : World) (c : Array Value) (hs : c.size = 2) (hf : Fits [.int .i64, .int .i64] 0 c.toList) (ao : Option Addr) (n cap : Nat) (G : Nat → Nat → Value) (R : IsRow w [.int .i64, .int .i64, .int .i64, .int .i64, .int .i64, .int .i64] ao n cap G)
    (c2 : Array Value) (hs2 : c2.size = 6) (hf2 : Fits [.int .i64, .int .i64, .int .i64, .int .i64, .int .i64, .int .i64] 0 c2.toList) (hT : TabIn w) :
    Calls Tryd.prog 3 #[.agg c, .slice ao n cap, .agg c2] w fun e w' => e = .returned (.bool true) ∧ Below w.heap.size w w' := by
  obtain ⟨x, y, rfl⟩ := dims_of_fits hs hf
  obtain ⟨r, rfl, hr⟩ := rl_of_fits hs2 hf2
  obtain ⟨rs, hrs, hR, _⟩ := R.rules
  obtain ⟨kind, head, who, a, b, via⟩ := r
  exact semLeast_any w x y ao n cap rs hrs R.le hR kind head who a b via hr.2.2.1 hT
end Go.Proofs.YtckjgefpelnkoaaDoor
