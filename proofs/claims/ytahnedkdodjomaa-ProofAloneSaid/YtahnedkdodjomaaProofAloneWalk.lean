/-
  The walk of the law ProofAlone.
-/
import Derived.Test.YtahnedkdodjomaaProofAlonePlain
import Derived.Test.YtahnedkdodjomaaProofChecked
import Derived.Test.YtahnedkdodjomaaProofLaw
import Derived.Deep.RegionHeld3
set_option linter.unusedVariables false
set_option linter.unusedSimpArgs false
set_option linter.unnecessarySimpa false
namespace Go.Proofs.Ytahnedkdodjomaa
open Go.ChangeShapes Go.WideShapes Go.ChangeAt Go.RowKit Go.Deep SetPlain
theorem ownR_empty {w : World} {z : Nat} (hz : z ≤ w.heap.size) : OwnR z (w.alloc (.cells #[] 39)) (.slice (some ⟨w.heap.size, 0, none⟩) 0 0) [] :=
  ⟨rfl, .inr ⟨w.heap.size, 0, #[], rfl, hz, (MapKept.heap_alloc w _).1, Nat.le_refl _, Nat.zero_le _, rfl, rfl⟩⟩
/-- What the law calls of a proof that was told. -/
structure AloneC (wB : World) (P K n : Nat) (a b : Int) (ao : Option Addr) (cap : Nat) (so : Option Addr) (ln sc : Nat) (rs : List Rl) (U : List Int) : Prop where
  uses : ∀ W, Keeps (fun _ => False) wB W → Calls Try.prog 8 #[.slice so ln sc] W fun e W' => ∃ v, e = .returned v ∧ Hid (Keeps (fun _ => False) wB W' ∧ Keeps (fun _ => False) W W' ∧ ReadsI W' v U)
  chk : ∀ W (i : Nat) ao' cap', (i : Int) ∈ U → Keeps (fun _ => False) wB W → RuleRow W ao' (rs.set i Rl.zero) → n ≤ cap' → Calls Try.prog 9 #[.int .i64 P, .int .i64 K, .slice ao' n cap', .slice so ln sc] W fun e W' => e = .returned (.bool false) ∧ Hid (Keeps (fun _ => False) wB W' ∧ Keeps (fun _ => False) W W')
  eval : ∀ W ao' cap', Keeps (fun _ => False) wB W → RuleRow W ao' (rulesAt rs U) → U.length ≤ cap' → Calls Try.prog 13 #[.int .i64 P, .int .i64 K, .slice ao' U.length cap'] W fun e W' => ∃ m, e = .returned (.pointer (some ⟨m, 0, none⟩)) ∧ Hid (Keeps (fun _ => False) wB W' ∧ ∀ W2, Keeps (fun _ => False) W' W2 → Calls Try.prog 14 #[.pointer (some ⟨m, 0, none⟩), .int .i64 a, .int .i64 b] W2 fun e W3 => e = .returned (.bool true) ∧ W2 = W3)
  prv : ∀ W, Keeps (fun _ => False) wB W → Calls Try.prog 10 #[.int .i64 P, .int .i64 K, .slice ao n cap, .int .i64 a, .int .i64 b, .slice so ln sc] W fun e W' => e = .returned (.bool true) ∧ Hid (Keeps (fun _ => False) wB W')
  in_ : ∀ x ∈ U, ∃ (i : Nat) (r : Rl), x = i ∧ i < n ∧ rs[i]? = some r
  row : ∀ W, Keeps (fun _ => False) wB W → RuleRow W ao rs
  len : U.length ≤ 600
  pos : 0 < n
theorem aloneC_of {wB : World} {P K n : Nat} {a b : Int} {ao so : Option Addr} {cap ln sc : Nat} {rs : List Rl} {out : List Sp} (hP : P ≤ 10) (hK : K ≤ 6) (hrs : rs.length = n) (hn : n ≤ 60) (hcap : n ≤ cap) (hR : ∀ W, Keeps (fun _ => False) wB W → RuleRow W ao rs) (ht : Told P K rs a b out) (hS : StRow wB so out) (hl : out.length = ln) (hle : ln ≤ sc) :
    AloneC wB P K n a b ao cap so ln sc rs (suppL (rulesOf out)) := by
  have hC : Chk P K rs out := ht.good
  have h600 : ln ≤ 600 := by
    have h1 := hC.le (by omega) (by omega)
    have h2 : P * (P * K) ≤ 10 * (10 * 6) := Nat.mul_le_mul hP (Nat.mul_le_mul hP hK)
    omega
  have hKS : ∀ W, Keeps (fun _ => False) wB W → StRow W so out := fun W hk => hS.keeps hk
  have hD : Dims (P : Int) (K : Int) := .inl ⟨P, K, rfl, rfl, by omega, by omega⟩
  have hul : (suppL (rulesOf out)).length ≤ 600 := by have := supp_len (rulesOf out); rw [rulesOf_len] at this; omega
  refine ⟨?_, ?_, ?_, ?_, ?_, hR, hul, ?_⟩
  · intro W hk
    refine (uses_spec (hKS W hk) hl hle (by omega)).mono ?_
    rintro e W' ⟨v, rfl, hv⟩
    exact ⟨v, rfl, hk.trans hv.out.1, hv.out.1, hv.out.2⟩
  · intro W i ao' cap' hi hk hrow hc
    refine (kcheck_spec (rs := rs.set i Rl.zero) hrow (by rw [List.length_set]; exact hrs) hc hD (hKS W hk) hl hle (by omega)).mono ?_
    rintro e W' ⟨bv, rfl, hb⟩
    have h0 : bv = false := by
      cases bv with
      | false => rfl
      | true => exact absurd (hb.out.1.1 rfl) (less_no ((supp_mem _ _).1 hi))
    subst h0
    exact ⟨rfl, hk.trans hb.out.2, hb.out.2⟩
  · intro W ao' cap' hk hrow hc
    have hWP : Within (P : Int) 64 P := by unfold Within; omega
    have hWK : Within (K : Int) 64 K := by unfold Within; omega
    have hc2 : (rulesAt rs (suppL (rulesOf out))).length ≤ cap' := by rw [rulesAt_len]; exact hc
    have hl3 : (rulesAt rs (suppL (rulesOf out))).length = (suppL (rulesOf out)).length := rulesAt_len _
    refine (reval_law (n := (suppL (rulesOf out)).length) hWP hWK (by omega) (by omega) hl3 (by omega) hc hrow).mono ?_
    rintro e W' ⟨m, rfl, hm, hk2⟩
    refine ⟨m, rfl, hk.trans hk2, fun W2 hk3 => ?_⟩
    obtain ⟨ao1, cap1, rb, In, hM, hder⟩ := hm.out
    refine (rhas_spec (hM.keeps hk3) a b).mono ?_
    rintro e W3 ⟨rfl, h⟩
    refine ⟨?_, h⟩
    rw [(hder a b).2 (alone_der (by omega) (by omega) ht)]
  · intro W hk
    refine (kproves_spec (hR W hk) hrs hcap hD (hKS W hk) hl hle (by omega) a b).mono ?_
    rintro e W' ⟨bv, rfl, hb⟩
    have h0 : bv = true := hb.out.1.2 (by
      obtain ⟨s, hs⟩ : ∃ s, out[out.length - 1]? = some s := ⟨_, List.getElem?_eq_getElem (by have := ht.pos; omega)⟩
      obtain ⟨h1, h2⟩ := ht.last s hs
      exact ⟨s, hs, h1, h2, hC⟩)
    subst h0
    exact ⟨rfl, hk.trans hb.out.2⟩
  · intro x hx
    obtain ⟨i, rfl, hi⟩ := chk_rules hC ((supp_mem _ _).1 hx)
    exact ⟨i, _, rfl, by omega, List.getElem?_eq_getElem hi⟩
  · obtain ⟨s, hs⟩ : ∃ s, out[0]? = some s := ⟨_, List.getElem?_eq_getElem ht.pos⟩
    obtain ⟨i, r, c, m, hr, _⟩ := may_form (hC 0 s hs)
    have : i < rs.length := by
      rcases Nat.lt_or_ge i rs.length with h | h
      · exact h
      · rw [List.getElem?_eq_none h] at hr; cases hr
    omega
set_option maxRecDepth 100000
set_option maxHeartbeats 6400000
theorem proofAlone_any (w : World) (d0 d1 : Int) (ao : Option Addr) (n cap : Nat) (rs : List Rl) (hrs : rs.length = n) (hcap : n ≤ cap) (hR : RuleRow w ao rs) (a b : Int) (ha : I64 a) (hb : I64 b) :
    Calls Try.prog 4 #[.agg #[.int .i64 d0, .int .i64 d1], .slice ao n cap, .agg #[.int .i64 a, .int .i64 b]] w fun e w' => e = .returned (.bool true) ∧ Below w.heap.size w w' := by
  obtain ⟨i0, hi0, hz0, hz1, hz2⟩ := info_parts rlInfo
  obtain ⟨W0, hW0⟩ : ∃ W0, W0 = (w.alloc (.cells #[.int .i64 d0, .int .i64 d1] 22)).alloc (.cells #[.int .i64 a, .int .i64 b] 22) := ⟨_, rfl⟩
  have hk0 : Keeps (fun _ => False) w W0 := by rw [hW0]; exact ((Keeps.refl _ _).alloc _).alloc _
  have hS0 : W0.cell? ⟨w.heap.size, 0, none⟩ = some (.int .i64 d0) ∧ W0.cell? ⟨w.heap.size, 1, none⟩ = some (.int .i64 d1) ∧ W0.cell? ⟨w.heap.size + 1, 0, none⟩ = some (.int .i64 a) ∧ W0.cell? ⟨w.heap.size + 1, 1, none⟩ = some (.int .i64 b) := by
    rw [hW0]
    refine ⟨?_, ?_, ?_, ?_⟩ <;> simp [World.cell?_alloc_past]
  have HS := Lib.hid (ssmall_spec d0 d1 ao n cap W0)
  have HKB : Hid (∀ W, Keeps (fun _ => False) W0 W → Below w.heap.size w W) := fun W hk => (hk0.trans hk).below (Nat.le_refl _) (fun _ _ x => x)
  have HLV : Hid (∀ W, Keeps (fun _ => False) W0 W → Calls Try.prog 6 #[] W fun e W' => e = .returned (.bool true) ∧ Keeps (fun _ => False) W0 W') := fun W hk =>
    (plives_any W).mono fun e W' ⟨he, hb⟩ => ⟨he, hk.trans (Keeps.of_below hb (Nat.le_refl _))⟩
  have HKS : Hid (∀ W, Keeps (fun _ => False) W0 W → W.cell? ⟨w.heap.size, 0, none⟩ = some (.int .i64 d0) ∧ W.cell? ⟨w.heap.size, 1, none⟩ = some (.int .i64 d1) ∧ W.cell? ⟨w.heap.size + 1, 0, none⟩ = some (.int .i64 a) ∧ W.cell? ⟨w.heap.size + 1, 1, none⟩ = some (.int .i64 b)) := fun W hk => by
    obtain ⟨s0, s1, s2, s3⟩ := hS0
    have l0 : w.heap.size < W0.heap.size := lt_of_cell s0
    have l1 : w.heap.size + 1 < W0.heap.size := lt_of_cell s2
    have c0 : ∀ i, W.cell? ⟨w.heap.size, i, none⟩ = W0.cell? ⟨w.heap.size, i, none⟩ := fun i => hk.cell (p := ⟨w.heap.size, i, none⟩) l0 (fun x => x)
    have c1 : ∀ i, W.cell? ⟨w.heap.size + 1, i, none⟩ = W0.cell? ⟨w.heap.size + 1, i, none⟩ := fun i => hk.cell (p := ⟨w.heap.size + 1, i, none⟩) l1 (fun x => x)
    exact ⟨(c0 0).trans s0, (c0 1).trans s1, (c1 0).trans s2, (c1 1).trans s3⟩
  by_cases hsm : d0 ≤ 10 ∧ d1 ≤ 6 ∧ n ≤ 60
  · rw [decide_eq_true hsm] at HS
    obtain ⟨hs0, hs1, hs2⟩ := hsm
    obtain ⟨P, hP⟩ := within_cases d0 64
    obtain ⟨K, hK⟩ := within_cases d1 64
    have hPl : P ≤ 10 := by unfold Within at hP; omega
    have hKl : K ≤ 6 := by unfold Within at hK; omega
    have HKR : Hid (∀ W, Keeps (fun _ => False) W0 W → RuleRow W ao rs) := fun W hk => hR.keeps (HKB.out W hk) (fun _ _ _ h => h)
    have HWY : Hid (∀ W, Keeps (fun _ => False) W0 W → Calls Try.prog 12 #[.int .i64 d0, .int .i64 d1, .slice ao n cap, .int .i64 a, .int .i64 b] W fun e W' => ∃ ok v, e = .returned (.tuple #[v, .bool ok]) ∧ Hid (Keeps (fun _ => False) W W') ∧ Hid (ok = true ↔ DerAt P K rs a b) ∧ Hid (ok = false → ∃ so sc, v = .slice so 0 sc) ∧
        Hid (ok = true → d0 = P ∧ d1 = K ∧ ∃ out, Told P K rs a b out ∧ TailRow W' 30 4 v out.length (spCells out))) := fun W hk =>
      (why_law hP hK hs0 hs1 (HKR.out W hk) hrs hcap hs2 ha hb).mono fun e W' ⟨ok, v, he, h1, h2, h3, h4⟩ => ⟨ok, v, he, h1, h2, h3, h4⟩
    have hkr0 := Keeps.refl (fun _ => False) W0
    obtain ⟨s0, s1, s2, s3⟩ := HKS.out W0 hkr0
    have HW0 := Lib.hid hW0
    clear hk0 hR hP hK hS0 hW0
    go_enter Try.func4, Try.ntmps4
    go_upto_region 1 with fail
    rw [← HW0.out]
    clear HW0
    go_wp2_with fail
    refine HS.out.mono ?_
    rintro e w' ⟨rfl, rfl⟩
    clear HS
    go_wp2_with fail
    refine (HWY.out _ hkr0).mono ?_
    rintro e wB ⟨ok, v, rfl, hkB, hiff, hno, hyes⟩
    clear HWY s0 s1 s2 s3
    have HKB0 := Lib.hid hkB.out
    cases ok with
    | false =>
      obtain ⟨so, sc, rfl⟩ := hno.out rfl
      clear hno hyes hiff hkB
      go_wp2_with fail
      refine (HLV.out _ HKB0.out).mono ?_
      rintro e w3 ⟨rfl, hk3⟩
      have HB := Lib.hid (HKB.out _ hk3)
      clear hk3 HLV HKB HKB0 HKS
      go_wp2_with fail
      go_ret
      exact ⟨rfl, HB.out⟩
    | true =>
      obtain ⟨rfl, rfl, out, htold, htr⟩ := hyes.out rfl
      clear hno hyes hiff hkB
      obtain ⟨so, sc, rfl, hle, hmx, hst⟩ := StRow.of_tail htr
      obtain ⟨ln, hln⟩ : ∃ x, out.length = x := ⟨_, rfl⟩
      obtain ⟨U, hU⟩ : ∃ U, suppL (rulesOf out) = U := ⟨_, rfl⟩
      have hAC := aloneC_of hPl hKl hrs hs2 hcap (fun W hk => HKR.out W (HKB0.out.trans hk)) htold hst hln (by rw [← hln]; exact hle)
      rw [hU] at hAC
      have HC := Lib.hid hAC
      have hn0 := hAC.pos
      obtain ⟨m, hm⟩ : ∃ m, U.length = m := ⟨_, rfl⟩
      have hm6 : m ≤ 600 := by rw [← hm]; exact hAC.len
      have HM := Lib.hid hm
      have HRS := Lib.hid hrs
      rw [hln]
      have HDN : Hid (∀ W, Keeps (fun _ => False) wB W → W.cell? ⟨w.heap.size, 0, none⟩ = some (.int .i64 P) ∧ W.cell? ⟨w.heap.size, 1, none⟩ = some (.int .i64 K) ∧ W.cell? ⟨w.heap.size + 1, 0, none⟩ = some (.int .i64 a) ∧ W.cell? ⟨w.heap.size + 1, 1, none⟩ = some (.int .i64 b)) := fun W hk => HKS.out W (HKB0.out.trans hk)
      have hkBB := Keeps.refl (fun _ => False) wB
      clear htold htr hle hmx hst hln hU hAC hm hrs HKR hPl hKl hs0 hs1
      go_wp2_with fail
      refine (HC.out.uses _ hkBB).mono ?_
      rintro e wC ⟨vU, rfl, hvU⟩
      have HKC := Lib.hid hvU.out.1
      obtain ⟨au, cu, rfl, hcu, hrdu⟩ := hvU.out.2.2
      have HRU : Hid (∀ W, Keeps (fun _ => False) wC W → ReadsI W (.slice au U.length cu) U) := fun W hk => hvU.out.2.2.keeps hk
      rw [HM.out] at hcu HRU ⊢
      clear hvU hrdu hkBB
      go_wp2_with fail
      go_loopg [9, 42] m (fun g ov t wy => ∃ (j : Nat), j ≤ m ∧ g = m - j ∧ t = .int .i64 j ∧ Hid (Keeps (fun _ => False) wC wy ∧ OwnR wC.heap.size wy ov (rulesAt rs (U.take j))))
      case atStart => exact ⟨0, Nat.zero_le _, rfl, rfl, Keeps.refl _ _, World.ownsRow_nil _ _ _ _⟩
      case round =>
        obtain ⟨j, hj, rfl, rfl, HI⟩ := hrel
        by_cases hlt : j < m
        · have hjI : (j : Int) < (m : Int) := by omega
          have hwj : IntKind.i64.wrap ((j : Int) + 1) = (j : Int) + 1 := IntWalk.i64_in _ (by omega)
          obtain ⟨x, hx⟩ : ∃ x, U[j]? = some x := ⟨_, List.getElem?_eq_getElem (by rw [HM.out]; exact hlt)⟩
          obtain ⟨i, r, rfl, hin, hr⟩ := HC.out.in_ x (List.mem_of_getElem? hx)
          obtain ⟨au', cu', he, _, hrd⟩ := HRU.out _ HI.out.1
          simp only [Value.slice.injEq] at he
          obtain ⟨rfl, -, rfl⟩ := he
          obtain ⟨gu, ou, rfl, hgu, hcc⟩ := hrd (by rw [HM.out]; omega)
          have cU := hcc j _ hx
          obtain ⟨bb, off, rfl, hbb, hcr⟩ := (HC.out.row _ (HKC.out.trans HI.out.1)) (by rw [HRS.out]; omega)
          obtain ⟨c0, c1, c2, c3, c4, c5⟩ := hcr i r hr
          have HZ := Lib.hid (rulesAt_take_succ hx hr)
          have hrl : (rulesAt rs (U.take j)).length ≤ 600 := by rw [rulesAt_len, List.length_take]; omega
          have hsz := HI.out.1.size
          have hiI : (i : Int) < (n : Int) := by omega
          have d1 : decide ((i : Int) < 0) = false := decide_eq_false (by omega)
          have d2 : decide (n ≤ i) = false := decide_eq_false (by omega)
          have HKX : Hid (Keeps (fun _ => False) wC wr) := HI.out.1
          have HOW : Hid (wr.ownsRow wC.heap.size 39 6 u9 (rulesAt rs (U.take j)).length (rlCells (rulesAt rs (U.take j)))) := HI.out.2
          obtain ⟨kind, head, who, ra, rb, via⟩ := r
          simp only [] at c0 c1 c2 c3 c4 c5 HZ
          clear hcc hcr hrd hx hr HI
          go_wp2_with (at_builtin; refine wpList_append_own _ rfl _ _ 23 rfl wC.heap.size 39 i0 _ 6 48 Try.underlying23 hi0 hz0 hz1 hz2 rfl (by decide) _ _ _ rfl (HOW.out.alloc _) ⟨wr.heap.size, 0, none⟩ 1 1 [.int .i64 kind, .int .i64 head, .int .i64 who, .int .i64 ra, .int .i64 rb, .int .i64 via] rfl rfl (cells_new wr _ _) (by intro u hu; simp only [List.mem_cons, List.not_mem_nil, or_false] at hu; rcases hu with rfl | rfl | rfl | rfl | rfl | rfl <;> rfl) (by unfold maxLen; omega) (by omega) (by simp; omega) ?_)
          intro v2 w6 hown2 hgrow _
          have HN : Hid (Keeps (fun _ => False) wC w6 ∧ OwnR wC.heap.size w6 v2 (rulesAt rs (U.take (j + 1)))) := by
            refine ⟨?_, ?_⟩
            · exact (HKX.out.trans ((Keeps.refl (fun _ => False) wr).alloc _)).trans_new (keeps_grown hgrow) (fun q hq e => by have := own_block HOW.out q e; omega)
            · show w6.ownsRow _ _ _ _ (rulesAt rs (U.take (j + 1))).length (rlCells (rulesAt rs (U.take (j + 1))))
              rw [HZ.out, rlCells_append, List.length_append]
              exact hown2
          clear HOW HKX HZ hown2 hgrow c0 c1 c2 c3 c4 c5 cU
          go_wp2_with fail
          go_roundg (m - (j + 1))
          case measure => omega
          case rel => exact ⟨j + 1, by omega, rfl, by go_num, HN⟩
        · obtain rfl : j = m := by omega
          have hjI : ¬ (j : Int) < (j : Int) := by omega
          have htk : U.take j = U := List.take_of_length_le (by rw [HM.out]; exact Nat.le_refl _)
          have hI2 := HI.out
          rw [htk] at hI2
          have HKE := Lib.hid (HKC.out.trans hI2.1)
          obtain ⟨a9, c9, rfl, hc9, hr9⟩ := hI2.2.rules
          rw [rulesAt_len] at hc9
          have HR9 := Lib.hid hr9
          have HSL := Lib.hid (show (rulesAt rs U).length = j by rw [rulesAt_len]; exact HM.out)
          rw [HM.out] at hc9
          rw [HSL.out]
          clear HI hI2 htk hr9 HRU hcu HKC
          go_wp2_with fail
          refine (HC.out.uses _ HKE.out).mono ?_
          rintro e wD ⟨vV, rfl, hvV⟩
          have HKD := Lib.hid hvV.out.1
          have HRD : Hid (RuleRow wD a9 (rulesAt rs U)) := HR9.out.keeps (hvV.out.2.1.below (Nat.le_refl _) (fun _ _ x => x)) (fun _ _ _ h => h)
          obtain ⟨av, cv, rfl, hcv, hrdv⟩ := hvV.out.2.2
          have HRV : Hid (∀ W, Keeps (fun _ => False) wD W → ReadsI W (.slice av U.length cv) U) := fun W hk => hvV.out.2.2.keeps hk
          rw [HM.out] at hcv HRV ⊢
          clear hvV hrdv HR9 HKE
          go_wp2_with fail
          go_loopg [65] j (fun g t wy => ∃ (i : Nat), i ≤ j ∧ g = j - i ∧ t = .int .i64 i ∧ Hid (Keeps (fun _ => False) wD wy))
          case atStart => exact ⟨0, Nat.zero_le _, rfl, rfl, Keeps.refl _ _⟩
          case round =>
            obtain ⟨q, hq, rfl, rfl, HI⟩ := hrel
            by_cases hlt2 : q < j
            · have hqI : (q : Int) < (j : Int) := by omega
              have hwq : IntKind.i64.wrap ((q : Int) + 1) = (q : Int) + 1 := IntWalk.i64_in _ (by omega)
              obtain ⟨x, hx⟩ : ∃ x, U[q]? = some x := ⟨_, List.getElem?_eq_getElem (by rw [HM.out]; exact hlt2)⟩
              have hxU := List.mem_of_getElem? hx
              obtain ⟨i, r, rfl, hin, hr⟩ := HC.out.in_ x hxU
              have HXU := Lib.hid hxU
              obtain ⟨av', cv', he, _, hrd⟩ := HRV.out _ HI.out
              simp only [Value.slice.injEq] at he
              obtain ⟨rfl, -, rfl⟩ := he
              obtain ⟨gu, ou, rfl, hgu, hcc⟩ := hrd (by rw [HM.out]; omega)
              have cU := hcc q _ hx
              obtain ⟨bb, off, rfl, hbb, hcr⟩ := (HC.out.row _ (HKD.out.trans HI.out)) (by rw [HRS.out]; omega)
              have HCR := Lib.hid hcr
              have hiI : (i : Int) < (n : Int) := by omega
              have HKX := Lib.hid HI.out
              clear hcc hcr hrd hx hxU HI
              go_wp2_with (at_builtin; refine wpList_append_own _ rfl _ _ 23 rfl wr.heap.size 39 i0 _ 6 48 Try.underlying23 hi0 hz0 hz1 hz2 rfl (by decide) _ 0 [] rfl (ownR_empty (Nat.le_refl _)) ⟨bb, off, none⟩ n cap (rlCells rs) rfl (by rw [rlCells_length, HRS.out]) (RuleRow.news (fun i r hr => by obtain ⟨c0, c1, c2, c3, c4, c5⟩ := HCR.out i r hr; have e : ∀ k, (wr.alloc (.cells #[] 39)).cell? ⟨bb, k, none⟩ = wr.cell? ⟨bb, k, none⟩ := fun k => World.cell?_alloc_past _ _ _ hbb; exact ⟨(e _).trans c0, (e _).trans c1, (e _).trans c2, (e _).trans c3, (e _).trans c4, (e _).trans c5⟩)) (rl_one rs) (by unfold maxLen; omega) (by omega) (by simp) ?_)
              intro v2 w6 hown2 hgrow _
              have hszX := HKX.out.size
              have HK6 : Hid (Keeps (fun _ => False) wD w6) := (HKX.out.trans ((Keeps.refl (fun _ => False) wr).alloc _)).trans_new (keeps_grown hgrow) (fun y hy e => by simp [Value.ownBlock] at e; omega)
              obtain ⟨hl6, h6 | ⟨g6, cap6, cur6, rfl, hg6, hh6, hle6, hmx6, hs6, ht6⟩⟩ := hown2
              · exact absurd h6.2 (by omega)
              have hcell : ∀ (i : Nat) (r : Rl) (t : Nat) (u : Value), i < n → rs[i]? = some r → r.cells[t]? = some u → w6.cell? ⟨g6, i * 6 + t, none⟩ = some u := fun i r t u hi hr hu => by
                have ht : t < 6 := by
                  rcases Nat.lt_or_ge t r.cells.length with h | h
                  · exact h
                  · rw [List.getElem?_eq_none h] at hu; cases hu
                have h1 := rlCells_get rs i r hr t u hu
                rw [← ht6, List.getElem?_take_of_lt (by omega), Array.getElem?_toList] at h1
                rw [cell_of_heap hh6]
                exact h1
              have HCELL := Lib.hid hcell
              have x0 := hcell i r 0 _ hin hr rfl
              have x1 := hcell i r 1 _ hin hr rfl
              have x2 := hcell i r 2 _ hin hr rfl
              have x3 := hcell i r 3 _ hin hr rfl
              have x4 := hcell i r 4 _ hin hr rfl
              have x5 := hcell i r 5 _ hin hr rfl
              rw [Nat.add_zero] at x0
              have f6 : ∀ o, w6.frozen? ⟨g6, o, none⟩ = false := fun o => free_of_heap hh6 o
              have HH6 := Lib.hid (And.intro hh6 hs6)
              clear hl6 hgrow hcell hr hh6 hs6 ht6
              go_upto_region 19 with fail
              obtain ⟨w7, hw7⟩ : ∃ w7, w6.setCells g6 (i * 6) [.int .i64 0, .int .i64 0, .int .i64 0, .int .i64 0, .int .i64 0, .int .i64 0] = w7 := ⟨_, rfl⟩
              have hw7' : ((((((w6.setCell ⟨g6, i * 6, none⟩ (.int .i64 0)).setCell ⟨g6, i * 6 + 1, none⟩ (.int .i64 0)).setCell ⟨g6, i * 6 + 2, none⟩ (.int .i64 0)).setCell ⟨g6, i * 6 + 3, none⟩ (.int .i64 0)).setCell ⟨g6, i * 6 + 4, none⟩ (.int .i64 0)).setCell ⟨g6, i * 6 + 5, none⟩ (.int .i64 0)) = w7 := hw7
              simp only [hw7']
              have hK7 : Keeps (fun _ => False) wD w7 := by
                rw [← hw7]
                exact HK6.out.trans_new (Keeps.setCells (S := fun x => x = g6) g6 (fun _ => rfl) _ _ _ (Keeps.refl _ _)) (fun y hy e => by omega)
              have hrow : RuleRow w7 (some ⟨g6, 0, none⟩) (rs.set i Rl.zero) := fun _ => by
                obtain ⟨c', q1, q2, q3, q4⟩ := heap_setCells g6 [.int .i64 0, .int .i64 0, .int .i64 0, .int .i64 0, .int .i64 0, .int .i64 0] (i * 6) w6 cur6 HH6.out.1
                rw [hw7] at q1
                have hsz : i * 6 + 6 ≤ cur6.size := by rw [HH6.out.2]; omega
                refine ⟨g6, 0, rfl, lt_of_heap q1, fun y r' hr' => ?_⟩
                have key : ∀ (t : Nat) (u : Value), r'.cells[t]? = some u → w7.cell? ⟨g6, 0 + y * 6 + t, none⟩ = some u := fun t u hu => by
                  have ht : t < 6 := by
                    rcases Nat.lt_or_ge t r'.cells.length with h | h
                    · exact h
                    · rw [List.getElem?_eq_none h] at hu; cases hu
                  rw [cell_of_heap q1, Nat.zero_add]
                  rw [List.getElem?_set] at hr'
                  split at hr'
                  · rename_i he
                    subst he
                    split at hr'
                    · cases hr'
                      rw [q4 (by simpa using hsz) t (by simpa using ht)]
                      exact hu
                    · cases hr'
                  · rename_i he
                    have hy : y < n := by
                      rcases Nat.lt_or_ge y rs.length with h | h
                      · rw [HRS.out] at h; exact h
                      · rw [List.getElem?_eq_none h] at hr'; cases hr'
                    rw [q3 _ (by simp only [List.length_cons, List.length_nil]; omega)]
                    have h1 := HCELL.out y r' t u hy hr' hu
                    rw [cell_of_heap HH6.out.1] at h1
                    exact h1
                exact ⟨key 0 _ rfl, key 1 _ rfl, key 2 _ rfl, key 3 _ rfl, key 4 _ rfl, key 5 _ rfl⟩
              have HROW := Lib.hid hrow
              have HK7 := Lib.hid hK7
              have hk7B := HKD.out.trans hK7
              obtain ⟨s0, s1, s2, s3⟩ := HDN.out w7 hk7B
              have HCK := Lib.hid (HC.out.chk w7 i (some ⟨g6, 0, none⟩) cap6 HXU.out hk7B HROW.out hle6)
              clear hrow hK7 hk7B hw7 hw7' HH6 HCELL x0 x1 x2 x3 x4 x5 f6 HCR cU HROW HK6
              go_wp2_with fail
              refine HCK.out.mono ?_
              rintro e w8 ⟨rfl, h8⟩
              have HN : Hid (Keeps (fun _ => False) wD w8) := HK7.out.trans h8.out.2
              clear HCK h8 HK7 s0 s1 s2 s3
              go_wp2_with fail
              go_roundg (j - (q + 1))
              case measure => omega
              case rel => exact ⟨q + 1, by omega, rfl, by go_num, HN⟩
            · obtain rfl : q = j := by omega
              have hqI : ¬ (q : Int) < (q : Int) := by omega
              have HK0 := Lib.hid (HKD.out.trans HI.out)
              have HEV2 : Hid (Calls Try.prog 13 #[.int .i64 P, .int .i64 K, .slice a9 q c9] wr.drew fun e W' => ∃ m, e = .returned (.pointer (some ⟨m, 0, none⟩)) ∧ Hid (Keeps (fun _ => False) wB W' ∧ ∀ W2, Keeps (fun _ => False) W' W2 → Calls Try.prog 14 #[.pointer (some ⟨m, 0, none⟩), .int .i64 a, .int .i64 b] W2 fun e W3 => e = .returned (.bool true) ∧ W2 = W3)) := by
                have h := HC.out.eval wr.drew a9 c9 (HK0.out.trans ((Keeps.refl _ _).drew)) (HRD.out.keeps ((HI.out.trans ((Keeps.refl _ _).drew)).below (Nat.le_refl _) (fun _ _ x => x)) (fun _ _ _ h => h)) (by rw [HM.out]; exact hc9)
                rw [HM.out] at h
                exact h
              have H22 := HDN.out wr.drew (HK0.out.trans ((Keeps.refl _ _).drew))
              clear HI HRV HRD HM
              go_upto_region 22 with fail
              refine wp_region_noPanic ?_
              refine wp_region_held_drew (S := (fun W => W.cell? ⟨w.heap.size, 0, none⟩ = some (.int .i64 P) ∧ W.cell? ⟨w.heap.size, 1, none⟩ = some (.int .i64 K) ∧ W.cell? ⟨w.heap.size + 1, 0, none⟩ = some (.int .i64 a) ∧ W.cell? ⟨w.heap.size + 1, 1, none⟩ = some (.int .i64 b))) (by kernel_rfl) H22 (fun hHeld => ?_)
              refine wpAnyH_take_at (i := 0) (v := ?v0) rfl (by kernel_rfl) (by kernel_rfl) (by kernel_rfl) (fun _ _ _ h => h) (Or.inl ⟨by rfl, ?y0⟩) hHeld ?r0
              case y0 => (intro w hSw; (try dsimp only at hSw); go_simp; first | done | with_reducible rfl)
              (try simp only [Act.put, List.setIfInBounds_toArray, List.set_cons_zero, List.set_cons_succ])
              refine wpAnyH_take_at (i := 1) (v := ?v1) rfl (by kernel_rfl) (by kernel_rfl) (by kernel_rfl) (fun _ _ _ h => h) (Or.inl ⟨by rfl, ?y1⟩) hHeld ?r1
              case y1 => (intro w hSw; (try dsimp only at hSw); go_simp; first | done | with_reducible rfl)
              (try simp only [Act.put, List.setIfInBounds_toArray, List.set_cons_zero, List.set_cons_succ])
              refine wpAnyH_take_at (i := 2) (v := ?v2) rfl (by kernel_rfl) (by kernel_rfl) (by kernel_rfl) (fun _ _ _ h => h) (Or.inl ⟨by rfl, ?y2⟩) hHeld ?r2
              case y2 => (intro w hSw; (try dsimp only at hSw); go_simp; first | done | with_reducible rfl)
              (try simp only [Act.put, List.setIfInBounds_toArray, List.set_cons_zero, List.set_cons_succ])
              refine wpAnyH_take_at (i := 3) (v := ?v3) rfl (by kernel_rfl) (by kernel_rfl) (by kernel_rfl) (fun _ _ _ h => h) (Or.inl ⟨by rfl, ?y3⟩) hHeld ?r3
              case y3 => (intro w hSw; (try dsimp only at hSw); go_simp; first | done | with_reducible rfl)
              (try simp only [Act.put, List.setIfInBounds_toArray, List.set_cons_zero, List.set_cons_succ])
              refine wpAnyH_take_at (i := 4) (v := ?v4) rfl (by kernel_rfl) (by kernel_rfl) (by kernel_rfl) (fun _ _ _ h => h) (Or.inl ⟨by rfl, ?y4⟩) hHeld ?r4
              case y4 => (intro w hSw; (try dsimp only at hSw); go_simp; first | done | with_reducible rfl)
              (try simp only [Act.put, List.setIfInBounds_toArray, List.set_cons_zero, List.set_cons_succ])
              refine wpAnyH_take_at (i := 6) (v := ?v6) rfl (by kernel_rfl) (by kernel_rfl) (by kernel_rfl) (fun _ _ _ h => h) (Or.inl ⟨by rfl, ?y6⟩) hHeld ?r6
              case y6 => (intro w hSw; (try dsimp only at hSw); go_simp; first | done | with_reducible rfl)
              (try simp only [Act.put, List.setIfInBounds_toArray, List.set_cons_zero, List.set_cons_succ])
              refine wpAnyH_take_at (i := 7) (v := ?v7) rfl (by kernel_rfl) (by kernel_rfl) (by kernel_rfl) (fun _ _ _ h => h) (Or.inl ⟨by rfl, ?y7⟩) hHeld ?r7
              case y7 => (intro w hSw; (try dsimp only at hSw); go_simp; first | done | with_reducible rfl)
              (try simp only [Act.put, List.setIfInBounds_toArray, List.set_cons_zero, List.set_cons_succ])
              refine wpAnyH_take_at (i := 8) (v := ?v8) rfl (by kernel_rfl) (by kernel_rfl) (by kernel_rfl) (fun _ _ _ h => h) (Or.inl ⟨by rfl, ?y8⟩) hHeld ?r8
              case y8 => (intro w hSw; (try dsimp only at hSw); go_simp; first | done | with_reducible rfl)
              (try simp only [Act.put, List.setIfInBounds_toArray, List.set_cons_zero, List.set_cons_succ])
              refine wpAnyH_take_at (i := 9) (v := ?v9) rfl (by kernel_rfl) (by kernel_rfl) (by kernel_rfl) (fun _ _ _ h => h) (Or.inl ⟨by rfl, ?y9⟩) hHeld ?r9
              case y9 => (intro w hSw; (try dsimp only at hSw); go_simp; first | done | with_reducible rfl)
              (try simp only [Act.put, List.setIfInBounds_toArray, List.set_cons_zero, List.set_cons_succ])
              refine wpAnyH_one (i := 5) (by kernel_rfl) rfl (fun KK hK => ?_)
              go_simp
              refine HEV2.out.mono ?_
              rintro e wE ⟨mb, rfl, hE⟩
              go_simp
              refine hK.out _ _ ?s5 (fun hHeld => ?_)
              case s5 => exact HDN.out _ hE.out.1
              clear hK KK
              (try simp only [Act.put, List.setIfInBounds_toArray, List.set_cons_zero, List.set_cons_succ])
              refine wpAnyH_one (i := 10) (by kernel_rfl) rfl (fun KK hK => ?_)
              go_simp
              refine (hE.out.2 _ (Keeps.refl _ _)).mono ?_
              rintro e wF ⟨rfl, rfl⟩
              go_simp
              refine hK.out _ _ ?s10 (fun hHeld => ?_)
              case s10 => exact HDN.out _ hE.out.1
              clear hK KK
              (try simp only [Act.put, List.setIfInBounds_toArray, List.set_cons_zero, List.set_cons_succ])
              refine wpAnyH_take_at (i := 11) (v := ?v11) rfl (by kernel_rfl) (by kernel_rfl) (by kernel_rfl) (fun _ _ _ h => h) (Or.inl ⟨by rfl, ?y11⟩) hHeld ?r11
              case y11 => (intro w hSw; (try dsimp only at hSw); go_simp; first | done | with_reducible rfl)
              (try simp only [Act.put, List.setIfInBounds_toArray, List.set_cons_zero, List.set_cons_succ])
              refine wpAnyH_take_at (i := 12) (v := ?v12) rfl (by kernel_rfl) (by kernel_rfl) (by kernel_rfl) (fun _ _ _ h => h) (Or.inl ⟨by rfl, ?y12⟩) hHeld ?r12
              case y12 => (intro w hSw; (try dsimp only at hSw); go_simp; first | done | with_reducible rfl)
              (try simp only [Act.put, List.setIfInBounds_toArray, List.set_cons_zero, List.set_cons_succ])
              refine wpAnyH_take_at (i := 13) (v := ?v13) rfl (by kernel_rfl) (by kernel_rfl) (by kernel_rfl) (fun _ _ _ h => h) (Or.inl ⟨by rfl, ?y13⟩) hHeld ?r13
              case y13 => (intro w hSw; (try dsimp only at hSw); go_simp; first | done | with_reducible rfl)
              (try simp only [Act.put, List.setIfInBounds_toArray, List.set_cons_zero, List.set_cons_succ])
              refine wpAnyH_take_at (i := 14) (v := ?v14) rfl (by kernel_rfl) (by kernel_rfl) (by kernel_rfl) (fun _ _ _ h => h) (Or.inl ⟨by rfl, ?y14⟩) hHeld ?r14
              case y14 => (intro w hSw; (try dsimp only at hSw); go_simp; first | done | with_reducible rfl)
              (try simp only [Act.put, List.setIfInBounds_toArray, List.set_cons_zero, List.set_cons_succ])
              refine wpAnyH_take_at (i := 15) (v := ?v15) rfl (by kernel_rfl) (by kernel_rfl) (by kernel_rfl) (fun _ _ _ h => h) (Or.inl ⟨by rfl, ?y15⟩) hHeld ?r15
              case y15 => (intro w hSw; (try dsimp only at hSw); go_simp; first | done | with_reducible rfl)
              (try simp only [Act.put, List.setIfInBounds_toArray, List.set_cons_zero, List.set_cons_succ])
              refine wpAnyH_take_at (i := 16) (v := ?v16) rfl (by kernel_rfl) (by kernel_rfl) (by kernel_rfl) (fun _ _ _ h => h) (Or.inl ⟨by rfl, ?y16⟩) hHeld ?r16
              case y16 => (intro w hSw; (try dsimp only at hSw); go_simp; first | done | with_reducible rfl)
              (try simp only [Act.put, List.setIfInBounds_toArray, List.set_cons_zero, List.set_cons_succ])
              refine wpAnyH_take_at (i := 17) (v := ?v17) rfl (by kernel_rfl) (by kernel_rfl) (by kernel_rfl) (fun _ _ _ h => h) (Or.inl ⟨by rfl, ?y17⟩) hHeld ?r17
              case y17 => (intro w hSw; (try dsimp only at hSw); go_simp; first | done | with_reducible rfl)
              (try simp only [Act.put, List.setIfInBounds_toArray, List.set_cons_zero, List.set_cons_succ])
              refine wpAnyH_take_at (i := 18) (v := ?v18) rfl (by kernel_rfl) (by kernel_rfl) (by kernel_rfl) (fun _ _ _ h => h) (Or.inl ⟨by rfl, ?y18⟩) hHeld ?r18
              case y18 => (intro w hSw; (try dsimp only at hSw); go_simp; first | done | with_reducible rfl)
              (try simp only [Act.put, List.setIfInBounds_toArray, List.set_cons_zero, List.set_cons_succ])
              refine wpAnyH_take_at (i := 19) (v := ?v19) rfl (by kernel_rfl) (by kernel_rfl) (by kernel_rfl) (fun _ _ _ h => h) (Or.inl ⟨by rfl, ?y19⟩) hHeld ?r19
              case y19 => (intro w hSw; (try dsimp only at hSw); go_simp; first | done | with_reducible rfl)
              (try simp only [Act.put, List.setIfInBounds_toArray, List.set_cons_zero, List.set_cons_succ])
              refine wpAnyH_take_at (i := 20) (v := ?v20) rfl (by kernel_rfl) (by kernel_rfl) (by kernel_rfl) (fun _ _ _ h => h) (Or.inl ⟨by rfl, ?y20⟩) hHeld ?r20
              case y20 => (intro w hSw; (try dsimp only at hSw); go_simp; first | done | with_reducible rfl)
              (try simp only [Act.put, List.setIfInBounds_toArray, List.set_cons_zero, List.set_cons_succ])
              refine wpAnyH_take_at (i := 21) (v := ?v21) rfl (by kernel_rfl) (by kernel_rfl) (by kernel_rfl) (fun _ _ _ h => h) (Or.inl ⟨by rfl, ?y21⟩) hHeld ?r21
              case y21 => (intro w hSw; (try dsimp only at hSw); go_simp; first | done | with_reducible rfl)
              (try simp only [Act.put, List.setIfInBounds_toArray, List.set_cons_zero, List.set_cons_succ])
              refine wpAnyH_one (i := 22) (by kernel_rfl) rfl (fun KK hK => ?_)
              go_simp
              refine (HC.out.prv _ hE.out.1).mono ?_
              rintro e wG ⟨rfl, hG⟩
              go_simp
              refine hK.out _ _ ?s22 (fun hHeld => ?_)
              case s22 => exact HDN.out _ hG.out
              clear hK KK
              (try simp only [Act.put, List.setIfInBounds_toArray, List.set_cons_zero, List.set_cons_succ])
              refine wpAnyH_take_at (i := 23) (v := ?v23) rfl (by kernel_rfl) (by kernel_rfl) (by kernel_rfl) (fun _ _ _ h => h) (Or.inl ⟨by rfl, ?y23⟩) hHeld ?r23
              case y23 => (intro w hSw; (try dsimp only at hSw); go_simp; first | done | with_reducible rfl)
              (try simp only [Act.put, List.setIfInBounds_toArray, List.set_cons_zero, List.set_cons_succ])
              refine wpAnyH_take_at (i := 24) (v := ?v24) rfl (by kernel_rfl) (by kernel_rfl) (by kernel_rfl) (fun _ _ _ h => h) (Or.inl ⟨by rfl, ?y24⟩) hHeld ?r24
              case y24 => (intro w hSw; (try dsimp only at hSw); go_simp; first | done | with_reducible rfl)
              (try simp only [Act.put, List.setIfInBounds_toArray, List.set_cons_zero, List.set_cons_succ])
              refine wpAnyH_one (i := 25) (by kernel_rfl) rfl (fun KK hK => ?_)
              go_simp
              refine (HLV.out _ (HKB0.out.trans hG.out)).mono ?_
              rintro e wH ⟨rfl, hkH⟩
              go_simp
              refine hK.out _ _ ?s25 (fun hHeld => ?_)
              case s25 => exact HKS.out _ hkH
              clear hK KK
              (try simp only [Act.put, List.setIfInBounds_toArray, List.set_cons_zero, List.set_cons_succ])
              refine wpAnyH_take_at (i := 26) (v := ?v26) rfl (by kernel_rfl) (by kernel_rfl) (by kernel_rfl) (fun _ _ _ h => h) (Or.inl ⟨by rfl, ?y26⟩) hHeld ?r26
              case y26 => (intro w hSw; (try dsimp only at hSw); go_simp; first | done | with_reducible rfl)
              (try simp only [Act.put, List.setIfInBounds_toArray, List.set_cons_zero, List.set_cons_succ])
              refine wpAnyH_take_at (i := 27) (v := ?v27) rfl (by kernel_rfl) (by kernel_rfl) (by kernel_rfl) (fun _ _ _ h => h) (Or.inl ⟨by rfl, ?y27⟩) hHeld ?r27
              case y27 => (intro w hSw; (try dsimp only at hSw); go_simp; first | done | with_reducible rfl)
              (try simp only [Act.put, List.setIfInBounds_toArray, List.set_cons_zero, List.set_cons_succ])
              refine wpAnyH_done (by kernel_rfl) ?_ _
              refine NoPanic.normal ?_
              have HB := Lib.hid (HKB.out _ hkH)
              clear hHeld hkH hE hG H22 HKS HDN HLV HKB
              go_wp2_with fail
              go_ret
              exact ⟨rfl, HB.out⟩
  · rw [decide_eq_false hsm] at HS
    have HL := Lib.hid (HLV.out W0 (Keeps.refl _ _))
    have HW0 := Lib.hid hW0
    obtain ⟨s0, s1, s2, s3⟩ := HKS.out W0 (Keeps.refl _ _)
    clear hk0 hR hS0 hW0 hsm HKS HLV
    go_enter Try.func4, Try.ntmps4
    go_upto_region 1 with fail
    rw [← HW0.out]
    clear HW0
    go_wp2_with fail
    refine HS.out.mono ?_
    rintro e w' ⟨rfl, rfl⟩
    clear HS
    go_wp2_with fail
    refine HL.out.mono ?_
    rintro e w2 ⟨rfl, hk2⟩
    have HB := Lib.hid (HKB.out _ hk2)
    clear hk2 HL HKB
    go_wp2_with fail
    go_ret
    exact ⟨rfl, HB.out⟩
theorem pair_of_fits {c : Array Value} (hs : c.size = 2) (hf : Fits [.int .i64, .int .i64] 0 c.toList) : ∃ x y : Int, c = #[.int .i64 x, .int .i64 y] ∧ I64 x ∧ I64 y := by
  obtain ⟨l⟩ := c
  match l, hs with
  | [a, b], _ =>
    obtain ⟨u, hu, x, rfl, hx⟩ := hf 0 _ rfl
    obtain ⟨v, hv, y, rfl, hy⟩ := hf 1 _ rfl
    simp at hu hv
    subst hu
    subst hv
    exact ⟨x, y, rfl, bounds_i64 hx, bounds_i64 hy⟩
theorem proofAlone_core (w : World) (c : Array Value) (hs : c.size = 2) (hf : Fits [.int .i64, .int .i64] 0 c.toList) (ao : Option Addr) (n cap : Nat) (G : Nat → Nat → Value) (R : IsRow w [.int .i64, .int .i64, .int .i64, .int .i64, .int .i64, .int .i64] ao n cap G)
    (c2 : Array Value) (hs2 : c2.size = 2) (hf2 : Fits [.int .i64, .int .i64] 0 c2.toList) :
    Calls Try.prog 4 #[.agg c, .slice ao n cap, .agg c2] w fun e w' => e = .returned (.bool true) ∧ Below w.heap.size w w' := by
  obtain ⟨x, y, rfl⟩ := dims_of_fits hs hf
  obtain ⟨a, b, rfl, ha, hb⟩ := pair_of_fits hs2 hf2
  obtain ⟨rs, hrs, hR, _⟩ := R.rules
  exact proofAlone_any w x y ao n cap rs hrs R.le hR a b ha hb
end Go.Proofs.Ytahnedkdodjomaa
