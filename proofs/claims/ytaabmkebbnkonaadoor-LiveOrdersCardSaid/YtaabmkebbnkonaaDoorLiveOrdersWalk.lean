/-
  The walk of the law LiveOrders.
-/
import Derived.Test.YtaabmkebbnkonaaDoorLiveTwo
import Derived.Test.YtaabmkebbnkonaaDoorLiveSame
import Derived.Test.YtaabmkebbnkonaaDoorMD
import Derived.Deep.RegionHeld3
import Derived.Deep.DeepCutAuto
import Derived.Deep.LoopGhost
set_option linter.unusedVariables false
set_option linter.unusedSimpArgs false
set_option linter.unnecessarySimpa false
namespace Go.Proofs.YtaabmkebbnkonaaDoor
open Go.ChangeShapes Go.WideShapes Go.ChangeAt Go.RowKit Go.Deep SetPlain
set_option maxRecDepth 100000
set_option maxHeartbeats 6400000
theorem rule_of_fits {c : Array Value} (hs : c.size = 6) (hf : Fits [.int .i64, .int .i64, .int .i64, .int .i64, .int .i64, .int .i64] 0 c.toList) : ∃ r : Rl, c = #[.int .i64 r.kind, .int .i64 r.head, .int .i64 r.who, .int .i64 r.a, .int .i64 r.b, .int .i64 r.via] := by
  obtain ⟨l⟩ := c
  match l, hs with
  | [x0, x1, x2, x3, x4, x5], _ =>
    obtain ⟨u0, e0, y0, rfl, _⟩ := hf 0 _ rfl
    obtain ⟨u1, e1, y1, rfl, _⟩ := hf 1 _ rfl
    obtain ⟨u2, e2, y2, rfl, _⟩ := hf 2 _ rfl
    obtain ⟨u3, e3, y3, rfl, _⟩ := hf 3 _ rfl
    obtain ⟨u4, e4, y4, rfl, _⟩ := hf 4 _ rfl
    obtain ⟨u5, e5, y5, rfl, _⟩ := hf 5 _ rfl
    simp at e0 e1 e2 e3 e4 e5
    subst e0 e1 e2 e3 e4 e5
    exact ⟨⟨y0, y1, y2, y3, y4, y5⟩, rfl⟩
theorem LvS.listA {W0 W : World} {la P K N : Nat} {rs ss : List Rl} {FA : Nat → Prop} (h : LvS W0 W la P K rs FA) (hT : TabIn W0) (hN : P * K = N) {F : Nat → Nat → Bool} (hF : ∀ i c, F i c = true ↔ i < N ∧ c < P ∧ Der K ss i c) (he : ∀ x, x ∈ rs ↔ x ∈ ss) (i : Int) :
    Calls Tryd.prog 12 #[.pointer (some ⟨la, 0, none⟩), .int .i64 i] W fun e W' => ∃ u, e = .returned u ∧ Hid (ReadsL W' u (listTo (rowP N F i) P) ∧ Keeps (fun _ => False) W W') := by
  refine (members_spec h.is (h.tab hT) i).mono ?_
  rintro e W' ⟨u, l, rfl, hl⟩
  obtain ⟨⟨base, h1⟩, h2, h3, h4⟩ := hl.out
  rw [hN] at h4
  have e : l = listTo (rowP N F i) P := members_plain (Q := Der K ss) hF h3 (fun c => by rw [h4, Der.same he])
  subst e
  exact ⟨u, rfl, ReadsL.of_own h1, h2⟩
theorem liveOrders_small (w : World) (d0 d1 : Int) (ao : Option Addr) (n cap : Nat) (r : Rl) (h : 8 < d0 ∨ 5 < d1 ∨ 20 < n) (hT : TabIn w) :
    Calls Tryd.prog 5 #[.agg #[.int .i64 d0, .int .i64 d1], .slice ao n cap, .agg #[.int .i64 r.kind, .int .i64 r.head, .int .i64 r.who, .int .i64 r.a, .int .i64 r.b, .int .i64 r.via]] w fun e w' => e = .returned (.bool true) ∧ Below w.heap.size w w' := by
  obtain ⟨kind, head, who, a, b, via⟩ := r
  dsimp only
  obtain ⟨W0, hW0⟩ : ∃ W0, ((w.alloc (.cells #[.int .i64 d0, .int .i64 d1] 22)).alloc (.cells #[.int .i64 kind, .int .i64 head, .int .i64 who, .int .i64 a, .int .i64 b, .int .i64 via] 29)) = W0 := ⟨_, rfl⟩
  have hal := (MapKept.heap_alloc w (.cells #[.int .i64 d0, .int .i64 d1] 22)).1
  have hk1 : Keeps (fun _ => False) (w.alloc (.cells #[.int .i64 d0, .int .i64 d1] 22)) ((w.alloc (.cells #[.int .i64 d0, .int .i64 d1] 22)).alloc (.cells #[.int .i64 kind, .int .i64 head, .int .i64 who, .int .i64 a, .int .i64 b, .int .i64 via] 29)) := (Keeps.refl _ _).alloc _
  have hk0 : Keeps (fun _ => False) w ((w.alloc (.cells #[.int .i64 d0, .int .i64 d1] 22)).alloc (.cells #[.int .i64 kind, .int .i64 head, .int .i64 who, .int .i64 a, .int .i64 b, .int .i64 via] 29)) := ((Keeps.refl _ _).alloc _).alloc _
  have hal := (hk1.block _ (lt_of_heap hal) (fun x => x)).trans hal
  rw [hW0] at hal hk0
  have c0 : W0.cell? ⟨w.heap.size, 0, none⟩ = some (.int .i64 d0) := by rw [cell_of_heap hal]; rfl
  have c1 : W0.cell? ⟨w.heap.size, 1, none⟩ = some (.int .i64 d1) := by rw [cell_of_heap hal]; rfl
  have HL := Lib.hid (lives43_any W0 (hT.keeps hk0 (fun x => x)))
  have HK0 := Lib.hid hk0
  clear hT hk0 hk1 hal
  have hg : 8 < d0 ∨ (¬ 8 < d0 ∧ 5 < d1) ∨ (¬ 8 < d0 ∧ ¬ 5 < d1 ∧ (20 : Int) < (n : Int)) := by omega
  clear h
  rcases hg with h0 | ⟨h0, h1⟩ | ⟨h0, h1, h2⟩
  all_goals
    go_enter Tryd.func5, Tryd.ntmps5
    go_upto_region 1 with fail
    (try simp only [hW0])
    clear hW0
    go_wp2_with (go_at_call 6; refine HL.out.mono ?_; rintro e w2 ⟨rfl, hb⟩)
    have HP := Lib.hid ((HK0.out.trans hb.out).below (Nat.le_refl _) (fun _ _ x => x))
    clear HL hb HK0
    go_ret
    exact ⟨rfl, HP.out⟩
theorem liveOrders_any (w : World) (d0 d1 : Int) (ao : Option Addr) (n cap : Nat) (r : Rl) (h0 : ¬ 8 < d0) (h1 : ¬ 5 < d1) (h2 : ¬ (20 : Int) < (n : Int)) (rules : List Rl) (hrs : rules.length = n) (hR : RuleRow w ao rules) (hT : TabIn w) :
    Calls Tryd.prog 5 #[.agg #[.int .i64 d0, .int .i64 d1], .slice ao n cap, .agg #[.int .i64 r.kind, .int .i64 r.head, .int .i64 r.who, .int .i64 r.a, .int .i64 r.b, .int .i64 r.via]] w fun e w' => e = .returned (.bool true) ∧ Below w.heap.size w w' := by
  obtain ⟨kind, head, who, a, b, via⟩ := r
  dsimp only
  obtain ⟨W0, hW0⟩ : ∃ W0, ((w.alloc (.cells #[.int .i64 d0, .int .i64 d1] 22)).alloc (.cells #[.int .i64 kind, .int .i64 head, .int .i64 who, .int .i64 a, .int .i64 b, .int .i64 via] 29)) = W0 := ⟨_, rfl⟩
  have hal := (MapKept.heap_alloc w (.cells #[.int .i64 d0, .int .i64 d1] 22)).1
  have hk1 : Keeps (fun _ => False) (w.alloc (.cells #[.int .i64 d0, .int .i64 d1] 22)) ((w.alloc (.cells #[.int .i64 d0, .int .i64 d1] 22)).alloc (.cells #[.int .i64 kind, .int .i64 head, .int .i64 who, .int .i64 a, .int .i64 b, .int .i64 via] 29)) := (Keeps.refl _ _).alloc _
  have hk0 : Keeps (fun _ => False) w ((w.alloc (.cells #[.int .i64 d0, .int .i64 d1] 22)).alloc (.cells #[.int .i64 kind, .int .i64 head, .int .i64 who, .int .i64 a, .int .i64 b, .int .i64 via] 29)) := ((Keeps.refl _ _).alloc _).alloc _
  have hal := (hk1.block _ (lt_of_heap hal) (fun x => x)).trans hal
  have hax := (MapKept.heap_alloc (w.alloc (.cells #[.int .i64 d0, .int .i64 d1] 22)) (.cells #[.int .i64 kind, .int .i64 head, .int .i64 who, .int .i64 a, .int .i64 b, .int .i64 via] 29)).1
  rw [show (w.alloc (.cells #[.int .i64 d0, .int .i64 d1] 22)).heap.size = w.heap.size + 1 by simp] at hax
  rw [hW0] at hal hk0 hax
  have c0 : W0.cell? ⟨w.heap.size, 0, none⟩ = some (.int .i64 d0) := by rw [cell_of_heap hal]; rfl
  have c1 : W0.cell? ⟨w.heap.size, 1, none⟩ = some (.int .i64 d1) := by rw [cell_of_heap hal]; rfl
  obtain ⟨P, hP⟩ := within_cases d0 64
  obtain ⟨K, hK⟩ := within_cases d1 64
  have hPl : P ≤ 8 := by unfold Within at hP; omega
  have hKl : K ≤ 5 := by unfold Within at hK; omega
  have hpe : max d0 0 = (P : Int) := by unfold Within at hP; omega
  have hke : max d1 0 = (K : Int) := by unfold Within at hK; omega
  obtain ⟨N, hN⟩ : ∃ N, P * K = N := ⟨_, rfl⟩
  have hN40 : N ≤ 40 := by rw [← hN]; exact Nat.le_trans (Nat.mul_le_mul hPl hKl) (by decide)
  have hmul : IntKind.i64.wrap ((P : Int) * (K : Int)) = (N : Int) := by rw [← hN, Int.natCast_mul]; exact IntWalk.i64_in _ (by rw [← Int.natCast_mul, hN]; omega)
  have HMX := Lib.hid (And.intro hpe (And.intro hke hmul))
  have HBX : Hid (∀ W, Keeps (fun _ => False) W0 W → W.cell? ⟨w.heap.size, 0, none⟩ = some (.int .i64 d0) ∧ W.cell? ⟨w.heap.size, 1, none⟩ = some (.int .i64 d1)) := fun W hk => by
    have e := (hk.block _ (lt_of_heap hal) (fun x => x)).trans hal
    refine ⟨?_, ?_⟩ <;> (rw [cell_of_heap e]; rfl)
  have HRX : Hid (∀ W, Keeps (fun _ => False) W0 W → (fun w' : World => w'.cell? ⟨w.heap.size + 1, 0, none⟩ = some (.int .i64 kind) ∧ w'.cell? ⟨w.heap.size + 1, 1, none⟩ = some (.int .i64 head) ∧ w'.cell? ⟨w.heap.size + 1, 2, none⟩ = some (.int .i64 who) ∧ w'.cell? ⟨w.heap.size + 1, 3, none⟩ = some (.int .i64 a) ∧ w'.cell? ⟨w.heap.size + 1, 4, none⟩ = some (.int .i64 b) ∧ w'.cell? ⟨w.heap.size + 1, 5, none⟩ = some (.int .i64 via)) W) := fun W hk => by
    have e := (hk.block _ (lt_of_heap hax) (fun x => x)).trans hax
    refine ⟨?_, ?_, ?_, ?_, ?_, ?_⟩ <;> (rw [cell_of_heap e]; rfl)
  have HT0 : Hid (TabIn W0) := hT.keeps hk0 (fun x => x)
  have HRR : Hid (∀ W, Keeps (fun _ => False) W0 W → RuleRow W ao rules) := fun W hk => hR.keeps ((hk0.trans hk).below (Nat.le_refl _) (fun _ _ x => x)) (fun _ _ _ h => h)
  have HB : Hid (∀ W, Keeps (fun _ => False) W0 W → Below w.heap.size w W) := fun W hk => (hk0.trans hk).below (Nat.le_refl _) (fun _ _ x => x)
  have HRL := Lib.hid hrs
  have HNE := Lib.hid hN
  have HNEW : Hid (∀ W, Hid (Keeps (fun _ => False) W0 W) → Calls Tryd.prog 7 #[.int .i64 d0, .int .i64 d1] W fun e W' => ∃ l F, e = .returned (.pointer (some ⟨l, 0, none⟩)) ∧ Hid (LvIs W0.heap.size W' l P K [] F ∧ ∀ k, F k → W.heap.size ≤ k) ∧ Hid (Keeps (fun _ => False) W0 W') ∧ Hid (Keeps (fun _ => False) W W')) := fun W hk => by
    refine (lnew_spec (z := W0.heap.size) hP hK W hk.out.size).mono ?_
    rintro e W' ⟨l, F, rfl, hn⟩
    exact ⟨l, F, rfl, ⟨hn.out.1, hn.out.2.2⟩, hk.out.trans hn.out.2.1, hn.out.2.1⟩
  have HK0 : Hid (Keeps (fun _ => False) W0 W0.drew) := (Keeps.refl _ _).drew
  have hS0 := HBX.out W0.drew HK0.out
  clear hT hk0 hk1 hal hax hR hrs hP hK hN hpe hke hmul
  go_enter Tryd.func5, Tryd.ntmps5
  go_upto_region 1 with fail
  (try simp only [hW0])
  clear hW0
  go_upto_region 3 with fail
  go_region_held3 (fun w' => w'.cell? ⟨w.heap.size, 0, none⟩ = some (.int .i64 d0) ∧ w'.cell? ⟨w.heap.size, 1, none⟩ = some (.int .i64 d1)) (first | exact hS0 | exact HBX.out _ HK0.out | exact HBX.out _ (Hid.out (by assumption))) (first | (go_at_call 7; refine (HNEW.out _ hkA).mono ?_; rintro e wB ⟨lb, FB, rfl, hnB, hkB, hkmB⟩) | (go_at_call 7; refine (HNEW.out _ HK0).mono ?_; rintro e wA ⟨la, FA, rfl, hnA, hkA, hkmA⟩))
  have HTW : Hid (∃ ra rb FA FB, TwL W0 wB la lb P K rules 0 ra rb FA FB) := by
    refine ⟨[], [], FA, FB, ⟨hnA.out.1.quiet hkmB.out, hkB.out, fun k hk => Nat.le_trans HK0.out.size (hnA.out.2 k hk)⟩, ⟨hnB.out.1, hkB.out, fun k hk => Nat.le_trans hkA.out.size (hnB.out.2 k hk)⟩, fun k ha hb => ?_, fun x => ?_, fun x => ?_, Nat.le_refl _, Nat.le_refl _⟩
    · have e1 := hnA.out.1.lt k ha
      have e2 := hnB.out.2 k hb
      omega
    · simp
    · simp
  clear hnA hnB hkA hkB hkmA hkmB HNEW HK0 hS0 c0 c1
  go_wp2_with fail
  go_loopg [47] n (fun g t wy => ∃ j : Nat, j ≤ n ∧ g = n - j ∧ t = .int .i64 j ∧ Hid (∃ ra rb FA FB, TwL W0 wy la lb P K rules j ra rb FA FB))
  case atStart => exact ⟨0, Nat.zero_le _, rfl, rfl, HTW.out⟩
  case round =>
    clear HTW
    obtain ⟨j, hj, rfl, rfl, HS⟩ := hrel
    by_cases hlt : j < n
    · have hjI : (j : Int) < (n : Int) := by omega
      obtain ⟨m, hm⟩ : ∃ m, n - 1 - j = m := ⟨_, rfl⟩
      have hmI : (m : Int) < (n : Int) := by omega
      have hw1 : IntKind.i64.wrap ((n : Int) - 1) = (n : Int) - 1 := IntWalk.i64_in _ (by omega)
      have hw2 : IntKind.i64.wrap ((n : Int) - 1 - (j : Int)) = (m : Int) := (IntWalk.i64_in _ (by omega)).trans (by omega)
      have hwj : IntKind.i64.wrap ((j : Int) + 1) = (j : Int) + 1 := IntWalk.i64_in _ (by omega)
      obtain ⟨ra, rb, FA, FB, hTW⟩ := HS.out
      have HTW := Lib.hid hTW
      obtain ⟨gg, oo, rfl, hgg, hcc⟩ := HRR.out wr hTW.a.kp (by rw [HRL.out]; omega)
      obtain ⟨x, hx⟩ : ∃ x, rules[j]? = some x := ⟨_, List.getElem?_eq_getElem (by rw [HRL.out]; exact hlt)⟩
      obtain ⟨y, hy⟩ : ∃ y, rules[m]? = some y := ⟨_, List.getElem?_eq_getElem (by rw [HRL.out]; omega)⟩
      obtain ⟨q0, q1, q2, q3, q4, q5⟩ := hcc j x hx
      have HX := Lib.hid hx
      have HY : Hid (rules[rules.length - 1 - j]? = some y) := by rw [HRL.out, hm]; exact hy
      have hl900 : ra.length ≤ 900 := Nat.le_trans hTW.lena (by omega)
      have hl901 : rb.length ≤ 900 := Nat.le_trans hTW.lenb (by omega)
      obtain ⟨xk, xh, xw, xa, xb, xv⟩ := x
      simp only [] at q0 q1 q2 q3 q4 q5
      have HA := Lib.hid (hTW.a.add HT0.out hl900 ⟨xk, xh, xw, xa, xb, xv⟩)
      have HRJ : Hid (∀ W, Keeps (fun _ => False) W0 W → (W.cell? ⟨gg, oo + m * 6, none⟩ = some (.int .i64 y.kind) ∧ W.cell? ⟨gg, oo + m * 6 + 1, none⟩ = some (.int .i64 y.head) ∧ W.cell? ⟨gg, oo + m * 6 + 2, none⟩ = some (.int .i64 y.who) ∧ W.cell? ⟨gg, oo + m * 6 + 3, none⟩ = some (.int .i64 y.a) ∧ W.cell? ⟨gg, oo + m * 6 + 4, none⟩ = some (.int .i64 y.b) ∧ W.cell? ⟨gg, oo + m * 6 + 5, none⟩ = some (.int .i64 y.via)) ∧ gg < W.heap.size) := fun W hk => by
        obtain ⟨g2, o2, e, hg2, hc2⟩ := HRR.out W hk (by rw [HRL.out]; omega)
        simp only [Option.some.injEq, Addr.mk.injEq, and_true] at e
        obtain ⟨rfl, rfl⟩ := e
        exact ⟨hc2 m y hy, hg2⟩
      have HJL : Hid (j < rules.length) := by rw [HRL.out]; exact hlt
      clear HS hTW hcc hx hy hm hl900
      go_upto_region 8 with (go_at_call 8; refine HA.out.mono ?_; rintro e wA ⟨uA, cdA, ra2, ansA, FA2, rfl, hpA⟩)
      obtain ⟨HB1, HIN1, HLN1⟩ := HTW.out.first HX.out hpA.out.1 hpA.out.2.1 hpA.out.2.2.2.2
      have HSA := Lib.hid hpA.out.1
      have HB1 := Lib.hid HB1
      have HIN1 := Lib.hid HIN1
      have HINB := Lib.hid HTW.out.inb
      have HLNB := Lib.hid HTW.out.lenb
      obtain ⟨⟨p0, p1, p2, p3, p4, p5⟩, hgA⟩ := HRJ.out wA HSA.out.kp
      obtain ⟨yk, yh, yw, ya, yb, yv⟩ := y
      simp only [] at p0 p1 p2 p3 p4 p5
      have HBC := Lib.hid (HB1.out.1.add HT0.out hl901 ⟨yk, yh, yw, ya, yb, yv⟩)
      clear HA hpA HTW HRJ q0 q1 q2 q3 q4 q5 hgg HX
      go_upto_region 9 with (go_at_call 8; refine HBC.out.mono ?_; rintro e wC ⟨uC, cdC, rb2, ansC, FB2, rfl, hpC⟩)
      have HN : Hid (∃ ra rb FA FB, TwL W0 wC la lb P K rules (j + 1) ra rb FA FB) := ⟨ra2, rb2, FA2, FB2, TwL.both HSA.out HB1.out.1 HB1.out.2 HIN1.out HLN1 HINB.out HLNB.out HJL.out HY.out hpC.out.1 hpC.out.2.1 hpC.out.2.2.2.2⟩
      clear HBC hpC HSA HB1 HIN1 HINB HLNB HJL HY p0 p1 p2 p3 p4 p5 hgA
      go_wp2_with fail
      go_roundg (n - (j + 1))
      case measure => omega
      case rel => exact ⟨j + 1, by omega, rfl, by go_num, HN⟩
    · have hjI : ¬ (j : Int) < (n : Int) := by omega
      have hjn : j = rules.length := by rw [HRL.out]; omega
      obtain ⟨ra, rb, FA, FB, hTW⟩ := HS.out
      rw [hjn] at hTW
      have HTW := Lib.hid hTW
      have HSM := Lib.hid hTW.same
      have HLA : Hid (ra.length ≤ 20) := by have := hTW.lena; rw [HRL.out] at this; show _ ≤ _; omega
      clear HS hTW hjn HRR
      obtain ⟨HRS, HRN⟩ := HSM.out
      have HCP := Lib.hid (lcopy_spec HTW.out.a.is HTW.out.a.kp.size)
      go_upto_region 11 with (go_at_call 22; refine HCP.out.mono ?_; rintro e wD ⟨lc, FC, rfl, hpD⟩)
      have HTD := Lib.hid (HTW.out.quiet hpD.out.2.1)
      have HFC : Hid (∀ k, FC k → ¬ FA k ∧ ¬ FB k) := fun k hk => by
        have e1 := hpD.out.2.2 k hk
        exact ⟨fun h => by have := HTW.out.a.is.lt k h; omega, fun h => by have := HTW.out.b.is.lt k h; omega⟩
      have HSC : Hid (LvS W0 wD lc P K ra FC) := ⟨hpD.out.1, HTD.out.a.kp, fun k hk => Nat.le_trans HTW.out.a.kp.size (hpD.out.2.2 k hk)⟩
      have hl900 : ra.length ≤ 900 := Nat.le_trans HLA.out (by decide)
      have HAC := Lib.hid (HSC.out.add HT0.out hl900 ⟨kind, head, who, a, b, via⟩)
      obtain ⟨x0, x1, x2, x3, x4, x5⟩ := HRX.out wD HTD.out.a.kp
      clear HCP hpD HTW hl900
      go_upto_region 12 with (go_at_call 8; refine HAC.out.mono ?_; rintro e wE ⟨uE, cdE, rc, ansE, FC2, rfl, hpE⟩)
      have HTE : Hid (TwL W0 wE la lb P K rules rules.length ra rb FA FB) := ⟨HTD.out.a.beside hpE.out.1.kp hpE.out.2.1.keeps (fun k hf hc => (HFC.out k hc).1 hf), HTD.out.b.beside hpE.out.1.kp hpE.out.2.1.keeps (fun k hf hc => (HFC.out k hc).2 hf), HTD.out.dis, HTD.out.ina, HTD.out.inb, HTD.out.lena, HTD.out.lenb⟩
      clear HAC HTD HFC HSC x0 x1 x2 x3 x4 x5
      go_upto_if 76 with fail
      go_cut [13, 14] (fun c13 c14 wx => Hid (TwL W0 wx la lb P K rules rules.length ra rb FA FB))
      case first =>
        clear HBX HB HMX HRL HRN
        rcases hpE.out.2.2.2.2 with ⟨_, _, _, e⟩ | ⟨_, _, _, _, e⟩ | ⟨hbr, hnm, hrc, hdf, e⟩
        · subst e
          clear hpE HRX
          go_wp2_with fail
          go_meet
          case rel => exact HTE
        · subst e
          clear hpE HRX
          go_wp2_with fail
          go_meet
          case rel => exact HTE
        · subst e
          subst hrc
          obtain ⟨rr, hrr⟩ : ∃ rr : Rl, (⟨kind, head, who, a, b, via⟩ : Rl) = rr := ⟨_, rfl⟩
          have HSE : Hid (LvS W0 wE lc P K (ra ++ [rr]) FC2) := by rw [← hrr]; exact hpE.out.1
          have HRE := Lib.hid hpE.out.2.2.1
          rw [hrr] at hdf hnm hbr
          have HDF := Lib.hid hdf
          have HND : Hid (ra ++ [rr]).Nodup := HSE.out.is.nodup
          have hl902 : (ra ++ [rr]).length ≤ 900 := by rw [List.length_append]; have := HLA.out; simp; omega
          have HC13 : Hid (∀ W, Hid (Keeps (fun _ => False) wE W) → Calls Tryd.prog 22 #[.pointer (some ⟨lc, 0, none⟩)] W fun e W' => ∃ ld Fd, e = .returned (.pointer (some ⟨ld, 0, none⟩)) ∧ Hid (LvS W0 W' ld P K (ra ++ [rr]) Fd ∧ ∀ k, Fd k → wE.heap.size ≤ k) ∧ Hid (Keeps (fun _ => False) wE W')) := fun W hk => by
            refine (lcopy_spec (HSE.out.quiet hk.out).is (HSE.out.quiet hk.out).kp.size).mono ?_
            rintro e W' ⟨ld, Fd, rfl, hp⟩
            exact ⟨ld, Fd, rfl, ⟨⟨hp.out.1, (HSE.out.kp.trans hk.out).trans hp.out.2.1, fun k hf => Nat.le_trans (HSE.out.quiet hk.out).kp.size (hp.out.2.2 k hf)⟩, fun k hf => Nat.le_trans hk.out.size (hp.out.2.2 k hf)⟩, hk.out.trans hp.out.2.1⟩
          have HD13 : Hid (∀ ld Fd W, Hid (LvS W0 W ld P K (ra ++ [rr]) Fd ∧ ∀ k, Fd k → wE.heap.size ≤ k) → Hid (Keeps (fun _ => False) wE W) → Calls Tryd.prog 9 #[.pointer (some ⟨ld, 0, none⟩), .agg #[.int .i64 kind, .int .i64 head, .int .i64 who, .int .i64 a, .int .i64 b, .int .i64 via]] W fun e W' => ∃ u, e = .returned (.tuple #[u, .int .i64 0]) ∧ Hid (ReadsP W' u ansE) ∧ Hid (Keeps (fun _ => False) wE W')) := fun ld Fd W hd hk => by
            have := hd.out.1.drop HT0.out hl902 rr
            rw [← hrr] at this
            refine this.mono ?_
            rintro e W' ⟨u, code, rs', ans, Fp', rfl, hp⟩
            have hl := hp.out.2.2.2.2
            rw [hrr] at hl
            obtain ⟨hd2, rfl⟩ := hl.last HND.out
            have e : ans = ansE := hd2.eq HDF.out
            subst e
            exact ⟨u, rfl, hp.out.2.2.1, (hp.out.2.1.from hk.out hd.out.2).1⟩
          obtain ⟨N2, hN2⟩ : ∃ N2, P * K = N2 := ⟨_, rfl⟩
          obtain ⟨ta, tc, hta, htc, HLNA, HLNC⟩ : ∃ ta tc : Nat, ta ≤ 400 ∧ tc = ta + ansE.length ∧ Hid (∀ W, Keeps (fun _ => False) wE W → Calls Tryd.prog 14 #[.pointer (some ⟨la, 0, none⟩)] W fun e W' => e = .returned (.int .i64 ta) ∧ W = W') ∧ Hid (∀ W, Keeps (fun _ => False) wE W → Calls Tryd.prog 14 #[.pointer (some ⟨lc, 0, none⟩)] W fun e W' => e = .returned (.int .i64 tc) ∧ W = W') := by
            obtain ⟨_, _, _, _, InA, totA, hLA, _, hInA, _⟩ := HTE.out.a.is
            obtain ⟨_, _, _, _, InC, totC, hLC, _, hInC, _⟩ := HSE.out.is
            refine ⟨totIn P (P * K) InA, totIn P (P * K) InC, ?_, diff_tot HDF.out (fun r hr => List.mem_append_left _ hr) hInC hInA, fun W hk => ?_, fun W hk => ?_⟩
            · have h1 := totIn_le P (P * K) InA
              have h2 : P * (P * K) ≤ 8 * 40 := Nat.mul_le_mul hPl (by rw [HNE.out]; exact hN40)
              omega
            · refine (llen_spec (HTE.out.a.quiet hk).is).mono ?_
              rintro e W' ⟨q, rfl, rfl, hq⟩
              obtain ⟨In, hq1, hq2⟩ := hq.out
              have e : In = InA := in_same hq2 hInA
              rw [hq1, e]
              exact ⟨rfl, rfl⟩
            · refine (llen_spec (HSE.out.quiet hk).is).mono ?_
              rintro e W' ⟨q, rfl, rfl, hq⟩
              obtain ⟨In, hq1, hq2⟩ := hq.out
              have e : In = InC := in_same hq2 hInC
              rw [hq1, e]
              exact ⟨rfl, rfl⟩
          have hal : ansE.length ≤ 400 := by
            obtain ⟨_, _, _, _, InC, totC, hLC, _, hInC, _⟩ := HSE.out.is
            obtain ⟨_, _, _, _, InA, totA, hLA, _, hInA, _⟩ := HTE.out.a.is
            have h0 := diff_tot HDF.out (fun r hr => List.mem_append_left _ hr) hInC hInA
            have h1 := totIn_le P (P * K) InC
            have h2 : P * (P * K) ≤ 8 * 40 := Nat.mul_le_mul hPl (by rw [HNE.out]; exact hN40)
            omega
          have HRX2 : Hid (∀ W, Hid (Keeps (fun _ => False) wE W) → (fun w' : World => w'.cell? ⟨w.heap.size + 1, 0, none⟩ = some (.int .i64 kind) ∧ w'.cell? ⟨w.heap.size + 1, 1, none⟩ = some (.int .i64 head) ∧ w'.cell? ⟨w.heap.size + 1, 2, none⟩ = some (.int .i64 who) ∧ w'.cell? ⟨w.heap.size + 1, 3, none⟩ = some (.int .i64 a) ∧ w'.cell? ⟨w.heap.size + 1, 4, none⟩ = some (.int .i64 b) ∧ w'.cell? ⟨w.heap.size + 1, 5, none⟩ = some (.int .i64 via)) W) := fun W hk => HRX.out W (HSE.out.kp.trans hk.out)
          have HKE : Hid (Keeps (fun _ => False) wE wE.drew) := (Keeps.refl _ _).drew
          have hSE := HRX2.out _ HKE
          have HAL := Lib.hid hal
          have HTC := Lib.hid htc
          clear hpE HRX hdf hnm hbr hal htc hN2
          go_upto_region 13 with fail
          go_region_held3 (fun w' => w'.cell? ⟨w.heap.size + 1, 0, none⟩ = some (.int .i64 kind) ∧ w'.cell? ⟨w.heap.size + 1, 1, none⟩ = some (.int .i64 head) ∧ w'.cell? ⟨w.heap.size + 1, 2, none⟩ = some (.int .i64 who) ∧ w'.cell? ⟨w.heap.size + 1, 3, none⟩ = some (.int .i64 a) ∧ w'.cell? ⟨w.heap.size + 1, 4, none⟩ = some (.int .i64 b) ∧ w'.cell? ⟨w.heap.size + 1, 5, none⟩ = some (.int .i64 via)) (first | exact hSE | exact HRX2.out _ (by assumption)) (first | (go_at_call 22; refine (HC13.out _ HKE).mono ?_; rintro e wF ⟨ld, Fd, rfl, hcD, hkF⟩) | (go_at_call 9; refine (HD13.out _ _ _ hcD hkF).mono ?_; rintro e wG ⟨uG, rfl, hrG, hkG⟩))
          have HEG : Hid (ReadsP wG uE ansE) := HRE.out.keeps hkG.out (fun _ _ x => x)
          have HSM2 := Lib.hid (psame_yes HEG.out hrG.out (Nat.le_trans HAL.out (by decide)))
          obtain ⟨aE, cE, rfl, _⟩ := HEG.out
          have htc2 : tc = ta + ansE.length := HTC.out
          have hlnl : ansE.length ≤ 400 := HAL.out
          have hsum : IntKind.i64.wrap ((ta : Int) + (ansE.length : Int)) = (tc : Int) := (IntWalk.i64_in _ (by omega)).trans (by omega)
          have hne : ((tc : Int) != (tc : Int)) = false := by simp
          clear HC13 HD13 HSE HRE HDF HND HRX2 HKE hSE hcD hkF HEG hrG HTC HAL hrr
          go_wp2_with fail
          refine HSM2.out.mono ?_
          rintro e wH ⟨rfl, hkH⟩
          have hkH2 := Lib.hid (hkG.out.trans hkH.out)
          have HL1 := Lib.hid (HLNC.out wH hkH2.out)
          have HL2 := Lib.hid (HLNA.out wH hkH2.out)
          clear HSM2 HLNC HLNA hkG hkH
          go_wp2_with fail
          refine HL1.out.mono ?_
          rintro e wI ⟨rfl, rfl⟩
          clear HL1
          go_wp2_with fail
          refine HL2.out.mono ?_
          rintro e wI ⟨rfl, rfl⟩
          clear HL2
          have HTH := Lib.hid (HTE.out.quiet hkH2.out)
          clear HTE hkH2
          go_wp2_with fail
          go_meet
          case rel => exact HTH
      case rest =>
        clear HTE hpE
        have HTC := hcut
        clear hcut
        obtain ⟨hpe, hke, hmul⟩ := HMX.out
        obtain ⟨c0, c1⟩ := HBX.out _ HTC.out.a.kp
        obtain ⟨_, _, _, _, F, _, _, _, hF, _⟩ := HTC.out.a.is
        rw [HNE.out] at hF
        have HF := Lib.hid hF
        have HLS : Hid (∀ W q, Keeps (fun _ => False) wc W → (Calls Tryd.prog 12 #[.pointer (some ⟨la, 0, none⟩), .int .i64 q] W fun e W' => ∃ u, e = .returned u ∧ Hid (ReadsL W' u (listTo (rowP N F q) P) ∧ Keeps (fun _ => False) W W')) ∧ (Calls Tryd.prog 12 #[.pointer (some ⟨lb, 0, none⟩), .int .i64 q] W fun e W' => ∃ u, e = .returned u ∧ Hid (ReadsL W' u (listTo (rowP N F q) P) ∧ Keeps (fun _ => False) W W'))) := fun W q hk => ⟨(HTC.out.quiet hk).a.listA HT0.out HNE.out HF.out (fun _ => Iff.rfl) q, (HTC.out.quiet hk).b.listA HT0.out HNE.out HF.out (fun x => (HRS x).symm) q⟩
        have HK0 : Hid (Keeps (fun _ => False) wc wc) := Keeps.refl _ _
        clear hF
        go_wp2_with fail
        (try simp only [hpe, hke, hmul])
        clear hpe hke hmul HMX HBX c0 c1
        go_loopg [109] N (fun g t wy => ∃ q : Nat, q ≤ N ∧ g = N - q ∧ t = .int .i64 q ∧ Hid (Keeps (fun _ => False) wc wy))
        case atStart => exact ⟨0, Nat.zero_le _, rfl, rfl, HK0.out⟩
        case round =>
          clear HK0
          obtain ⟨q, hq, rfl, rfl, hk⟩ := hrel
          by_cases hltq : q < N
          · have hqI : (q : Int) < (N : Int) := by omega
            have hwq : IntKind.i64.wrap ((q : Int) + 1) = (q : Int) + 1 := IntWalk.i64_in _ (by omega)
            obtain ⟨l, hl⟩ : ∃ l, listTo (rowP N F q) P = l := ⟨_, rfl⟩
            have HLS2 : Hid (∀ W, Keeps (fun _ => False) wc W → (Calls Tryd.prog 12 #[.pointer (some ⟨la, 0, none⟩), .int .i64 q] W fun e W' => ∃ u, e = .returned u ∧ Hid (ReadsL W' u l ∧ Keeps (fun _ => False) W W')) ∧ (Calls Tryd.prog 12 #[.pointer (some ⟨lb, 0, none⟩), .int .i64 q] W fun e W' => ∃ u, e = .returned u ∧ Hid (ReadsL W' u l ∧ Keeps (fun _ => False) W W'))) := fun W hk2 => by rw [← hl]; exact HLS.out W q hk2
            have HLL : Hid (l.length ≤ 1000000) := by
              show _ ≤ _
              rw [← hl, listTo_len]
              exact Nat.le_trans (cnt_le _ _) (by omega)
            have A1 := Lib.hid (HLS2.out _ hk.out).1
            clear hl HLS
            go_wp2_with fail
            refine A1.out.mono ?_
            rintro e w5 ⟨u5, rfl, h5⟩
            have B2 := Lib.hid (HLS2.out w5 (hk.out.trans h5.out.2)).2
            go_wp2_with fail
            refine B2.out.mono ?_
            rintro e w6 ⟨u6, rfl, h6⟩
            have B3 := Lib.hid (same_spec (h5.out.1.keeps h6.out.2) h6.out.1 HLL.out HLL.out)
            have hk6 := Lib.hid ((hk.out.trans h5.out.2).trans h6.out.2)
            clear A1 B2 h5 h6 HLS2 hk
            go_wp2_with fail
            refine B3.out.mono ?_
            rintro e w7 ⟨rfl, nq, rfl⟩
            simp only [decide_true]
            have hk7 := Lib.hid (hk6.out.drewN nq)
            obtain ⟨w7, hw7⟩ : ∃ w7, w6.drewN nq = w7 := ⟨_, rfl⟩
            rw [hw7] at hk7 ⊢
            clear B3 hk6 hw7
            go_wp2_with fail
            go_roundg (N - (q + 1))
            case measure => omega
            case rel => exact ⟨q + 1, by omega, rfl, by go_num, hk7⟩
          · have hqI : ¬ (q : Int) < (N : Int) := by omega
            have HTE := Lib.hid (HTC.out.quiet hk.out)
            obtain ⟨x0, x1, x2, x3, x4, x5⟩ := HRX.out wr HTE.out.a.kp
            have B1 := Lib.hid (add_nil ⟨kind, head, who, a, b, via⟩ wr)
            clear HLS HTC hk HF
            go_wp2_with fail
            refine B1.out.mono ?_
            rintro e wa ⟨rfl, hka⟩
            obtain ⟨y0, y1, y2, y3, y4, y5⟩ := HRX.out wa (HTE.out.a.kp.trans hka.out)
            have B2 := Lib.hid (drop_nil ⟨kind, head, who, a, b, via⟩ wa)
            clear B1 x0 x1 x2 x3 x4 x5
            go_wp2_with fail
            refine B2.out.mono ?_
            rintro e wb ⟨rfl, hkb⟩
            have HTB := Lib.hid (HTE.out.quiet (hka.out.trans hkb.out))
            have C1 := Lib.hid (lrules_spec HTB.out.a.is)
            clear B2 y0 y1 y2 y3 y4 y5 HRX HTE hka hkb
            go_wp2_with fail
            refine (len_nil _).mono ?_
            rintro e w5 ⟨rfl, rfl⟩
            go_wp2_with fail
            refine (rules_nil _).mono ?_
            rintro e w5 ⟨rfl, rfl⟩
            go_wp2_with fail
            refine (members_nil _ _).mono ?_
            rintro e w5 ⟨rfl, rfl⟩
            go_wp2_with fail
            refine (in_nil _ _ _).mono ?_
            rintro e w5 ⟨rfl, rfl⟩
            go_wp2_with fail
            refine (copy_nil _).mono ?_
            rintro e w5 ⟨rfl, rfl⟩
            go_wp2_with fail
            refine C1.out.mono ?_
            rintro e w6 ⟨u6, rfl, h6⟩
            obtain ⟨a6, c6, rfl, _⟩ := h6.out.1
            obtain ⟨nr, hnr⟩ : ∃ nr, ra.length = nr := ⟨_, rfl⟩
            have HT6 := Lib.hid (HTB.out.quiet h6.out.2)
            have C2 := Lib.hid (lrules_spec HT6.out.b.is)
            rw [hnr]
            have HNR : Hid (rb.length = nr) := by rw [← HRN, hnr]; exact rfl
            clear C1 h6 HTB hnr HRN
            go_wp2_with fail
            refine C2.out.mono ?_
            rintro e w7 ⟨u7, rfl, h7⟩
            obtain ⟨a7, c7, rfl, _⟩ := h7.out.1
            rw [HNR.out]
            have HT7 := Lib.hid (HT6.out.quiet h7.out.2)
            have C3 := Lib.hid (lives43_any w7 (HT7.out.a.tab HT0.out))
            clear C2 h7 HT6 HNR
            go_wp2_with fail
            refine C3.out.mono ?_
            rintro e w8 ⟨rfl, hk8⟩
            have HP := Lib.hid (HB.out _ (HT7.out.a.kp.trans hk8.out))
            clear C3 hk8 HT7
            go_wp2_with fail
            go_ret
            exact ⟨rfl, HP.out⟩
theorem liveOrders_core (w : World) (c : Array Value) (hs : c.size = 2) (hf : Fits [.int .i64, .int .i64] 0 c.toList) (ao : Option Addr) (n cap : Nat) (G : Nat → Nat → Value) (R : IsRow w [.int .i64, .int .i64, .int .i64, .int .i64, .int .i64, .int .i64] ao n cap G) (c2 : Array Value) (hs2 : c2.size = 6) (hf2 : Fits [.int .i64, .int .i64, .int .i64, .int .i64, .int .i64, .int .i64] 0 c2.toList) (hT : TabIn w) :
    Calls Tryd.prog 5 #[.agg c, .slice ao n cap, .agg c2] w fun e w' => e = .returned (.bool true) ∧ Below w.heap.size w w' := by
  obtain ⟨x, y, rfl⟩ := dims_of_fits hs hf
  obtain ⟨r, rfl⟩ := rule_of_fits hs2 hf2
  obtain ⟨rules, hrs, hR, _⟩ := R.rules
  by_cases h0 : 8 < x
  · exact liveOrders_small w x y ao n cap r (.inl h0) hT
  · by_cases h1 : 5 < y
    · exact liveOrders_small w x y ao n cap r (.inr (.inl h1)) hT
    · by_cases h2 : 20 < n
      · exact liveOrders_small w x y ao n cap r (.inr (.inr h2)) hT
      · exact liveOrders_any w x y ao n cap r h0 h1 (by omega) rules hrs hR hT
end Go.Proofs.YtaabmkebbnkonaaDoor
