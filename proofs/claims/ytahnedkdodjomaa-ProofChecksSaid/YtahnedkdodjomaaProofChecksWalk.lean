/-
  The walk of the law ProofChecks.
-/
import Derived.Test.YtahnedkdodjomaaProofChecked
import Derived.Test.YtahnedkdodjomaaProofCheckAny
import Derived.Test.YtahnedkdodjomaaProofUses
import Derived.Test.YtahnedkdodjomaaProofUsesPlain
import Derived.Test.YtahnedkdodjomaaProofLivesWalk
set_option linter.unusedVariables false
set_option linter.unusedSimpArgs false
set_option linter.unnecessarySimpa false
namespace Go.Proofs.Ytahnedkdodjomaa
open Go.ChangeShapes Go.WideShapes Go.ChangeAt Go.RowKit Go.Deep SetPlain
/-- All that the law calls, from a world on in which only new memory is written. -/
structure LawC (w W0 : World) (d0 d1 : Int) (ao : Option Addr) (n cap : Nat) (so : Option Addr) (m hcp : Nat) (rs : List Rl) (L : List Sp) (b0 : Bool) : Prop where
  dims : ∀ W, Keeps (fun _ => False) W0 W → W.cell? ⟨w.heap.size, 0, none⟩ = some (.int .i64 d0) ∧ W.cell? ⟨w.heap.size, 1, none⟩ = some (.int .i64 d1)
  small : Calls Try.prog 5 #[.int .i64 d0, .int .i64 d1, .slice ao n cap] W0 fun e w' => e = .returned (.bool true) ∧ W0 = w'
  ref : ∀ W, Keeps (fun _ => False) W0 W → Calls Try.prog 7 #[.int .i64 d0, .int .i64 d1, .slice ao n cap, .slice so m hcp] W fun e W' => e = .returned (.bool b0) ∧ Hid (Keeps (fun _ => False) W0 W' ∧ Keeps (fun _ => False) W W')
  chk : ∀ W, Keeps (fun _ => False) W0 W → Calls Try.prog 9 #[.int .i64 d0, .int .i64 d1, .slice ao n cap, .slice so m hcp] W fun e W' => e = .returned (.bool b0) ∧ Hid (Keeps (fun _ => False) W0 W' ∧ Keeps (fun _ => False) W W')
  prv : ∀ W role who b, Keeps (fun _ => False) W0 W → (b = true ↔ Prv d0 d1 rs L role who) → Calls Try.prog 10 #[.int .i64 d0, .int .i64 d1, .slice ao n cap, .int .i64 role, .int .i64 who, .slice so m hcp] W fun e W' => e = .returned (.bool b) ∧ Hid (Keeps (fun _ => False) W0 W' ∧ Keeps (fun _ => False) W W')
  uses : ∀ W, Keeps (fun _ => False) W0 W → Calls Try.prog 8 #[.slice so m hcp] W fun e W' => ∃ v, e = .returned v ∧ Hid (Keeps (fun _ => False) W W' ∧ Keeps (fun _ => False) W0 W' ∧ ReadsI W' v (suppL (rulesOf L)))
  same : ∀ W u v, Keeps (fun _ => False) W0 W → ReadsI W u (suppL (rulesOf L)) → ReadsI W v (suppL (rulesOf L)) → Calls Try.prog 11 #[u, v] W fun e W' => e = .returned (.bool true) ∧ Hid (Keeps (fun _ => False) W0 W' ∧ Keeps (fun _ => False) W W')
  lives : ∀ W, Keeps (fun _ => False) W0 W → Calls Try.prog 6 #[] W fun e W' => e = .returned (.bool true) ∧ Hid (Below w.heap.size w W')
  row : ∀ W, Keeps (fun _ => False) W0 W → StRow W so L
  iff : b0 = true ↔ Chk d0 d1 rs L
theorem neg_head {p k : Int} {rs : List Rl} {l : List Sp} {s : Sp} (hp : p ≤ 64) (hk : k ≤ 64) (h : mayB p k rs l s = true) : 0 ≤ s.role := by
  rcases Dims.of hp hk with ⟨P, K, rfl, rfl, hP, hK⟩ | ⟨hd, _, _⟩
  · obtain ⟨i, r, c, m, hr, hB, rfl, hc, h3, h4⟩ := may_form h
    exact (right_iff hB).1.1
  · rw [mayB_dead hd] at h
    cases h
theorem lawC_of {w W0 : World} {d0 d1 : Int} {ao so : Option Addr} {n cap m hcp : Nat} {rs : List Rl} {L : List Sp} (hW0 : W0 = w.alloc (.cells #[.int .i64 d0, .int .i64 d1] 22)) (hsm : d0 ≤ 10 ∧ d1 ≤ 6 ∧ n ≤ 60) (hrs : rs.length = n) (hcap : n ≤ cap) (hR : RuleRow w ao rs) (hS : StRow w so L) (hL : L.length = m) (hm : m ≤ 30) (hmc : m ≤ hcp) :
    ∃ b0, LawC w W0 d0 d1 ao n cap so m hcp rs L b0 := by
  obtain ⟨b0, hb0⟩ : ∃ b0 : Bool, b0 = true ↔ Chk d0 d1 rs L := by
    by_cases h : Chk d0 d1 rs L
    · exact ⟨true, fun _ => h, fun _ => rfl⟩
    · exact ⟨false, fun e => (by cases e), fun e => absurd e h⟩
  have hk0 : Keeps (fun _ => False) w W0 := by rw [hW0]; exact (Keeps.refl _ _).alloc _
  have hS0 : W0.cell? ⟨w.heap.size, 0, none⟩ = some (.int .i64 d0) ∧ W0.cell? ⟨w.heap.size, 1, none⟩ = some (.int .i64 d1) := by
    rw [hW0]
    refine ⟨?_, ?_⟩ <;> simp [World.cell?_alloc_past]
  have HKR : ∀ W, Keeps (fun _ => False) W0 W → RuleRow W ao rs := fun W hk => hR.keeps ((hk0.trans hk).below (Nat.le_refl _) (fun _ _ x => x)) (fun _ _ _ h => h)
  have HKS : ∀ W, Keeps (fun _ => False) W0 W → StRow W so L := fun W hk => hS.keeps (hk0.trans hk)
  have hbool : ∀ b : Bool, (b = true ↔ Chk d0 d1 rs L) → b = b0 := fun b h => Bool.eq_iff_iff.2 (h.trans hb0.symm)
  refine ⟨b0, ?_, ?_, ?_, ?_, ?_, ?_, ?_, ?_, ?_, hb0⟩
  · intro W hk
    obtain ⟨s0, s1⟩ := hS0
    have l0 := lt_of_cell s0
    exact ⟨(hk.cell (p := ⟨w.heap.size, 0, none⟩) l0 (fun x => x)).trans s0, (hk.cell (p := ⟨w.heap.size, 1, none⟩) l0 (fun x => x)).trans s1⟩
  · have := ssmall_spec d0 d1 ao n cap W0
    rw [decide_eq_true hsm] at this
    exact this
  · intro W hk
    refine (check9_any (HKR W hk) hrs hcap (HKS W hk) hL hmc (by omega) (by omega) (by omega)).mono ?_
    rintro e W' ⟨b, rfl, hb, hbl⟩
    rw [hbool b hb.out]
    exact ⟨rfl, hk.trans (Keeps.of_below hbl.out (Nat.le_refl _)), Keeps.of_below hbl.out (Nat.le_refl _)⟩
  · intro W hk
    refine (kcheck_spec (HKR W hk) hrs hcap (Dims.of (by omega) (by omega)) (HKS W hk) hL hmc (by omega)).mono ?_
    rintro e W' ⟨b, rfl, hb⟩
    rw [hbool b hb.out.1]
    exact ⟨rfl, hk.trans hb.out.2, hb.out.2⟩
  · intro W role who bv hk hbv
    refine (kproves_spec (HKR W hk) hrs hcap (Dims.of (by omega) (by omega)) (HKS W hk) hL hmc (by omega) role who).mono ?_
    rintro e W' ⟨b, rfl, hb⟩
    rw [show b = bv from Bool.eq_iff_iff.2 (hb.out.1.trans hbv.symm)]
    exact ⟨rfl, hk.trans hb.out.2, hb.out.2⟩
  · intro W hk
    refine (uses_spec (HKS W hk) hL hmc (by omega)).mono ?_
    rintro e W' ⟨v, rfl, hv⟩
    exact ⟨v, rfl, hv.out.1, hk.trans hv.out.1, hv.out.2⟩
  · intro W u v hk hu hv
    refine (isame_spec hu hv (by have := supp_len (rulesOf L); rw [rulesOf_len] at this; omega) rfl).mono ?_
    rintro e W' ⟨rfl, nq, rfl⟩
    exact ⟨rfl, hk.drewN nq, (Keeps.refl _ _).drewN nq⟩
  · intro W hk
    refine (plives_any W).mono ?_
    rintro e W' ⟨rfl, hb⟩
    exact ⟨rfl, ((hk0.trans hk).trans (Keeps.of_below hb (Nat.le_refl _))).below (Nat.le_refl _) (fun _ _ x => x)⟩
  · exact HKS
set_option maxRecDepth 100000
set_option maxHeartbeats 6400000
theorem proofChecks_some (w : World) (d0 d1 : Int) (ao : Option Addr) (n cap : Nat) (rs : List Rl) (hrs : rs.length = n) (hcap : n ≤ cap) (hR : RuleRow w ao rs) (bs os hn hcp : Nat) (l : List Sp) (hS : StRow w (some ⟨bs, os, none⟩) l) (hh : l.length = hn) (hhc : hn ≤ hcp) (hsm : d0 ≤ 10 ∧ d1 ≤ 6 ∧ n ≤ 60) :
    Calls Try.prog 3 #[.agg #[.int .i64 d0, .int .i64 d1], .slice ao n cap, .slice (some ⟨bs, os, none⟩) hn hcp] w fun e w' => e = .returned (.bool true) ∧ Below w.heap.size w w' := by
  obtain ⟨i0, hi0, hz0, hz1, hz2⟩ := info_parts iinfo
  obtain ⟨m, hm⟩ : ∃ m, min hn 30 = m := ⟨_, rfl⟩
  have hm30 : m ≤ 30 := by omega
  have hmc : m ≤ hcp := by omega
  have hmI : min (hn : Int) 30 = (m : Int) := by omega
  have hmI2 : (m : Int) ≤ (hcp : Int) := by omega
  obtain ⟨L, hLd⟩ : ∃ L, l.take m = L := ⟨_, rfl⟩
  have hL : L.length = m := by rw [← hLd, List.length_take]; omega
  have hSL : StRow w (some ⟨bs, os, none⟩) L := by rw [← hLd]; exact hS.take m
  obtain ⟨W0, hW0⟩ : ∃ W0, W0 = w.alloc (.cells #[.int .i64 d0, .int .i64 d1] 22) := ⟨_, rfl⟩
  obtain ⟨b0, hC⟩ := lawC_of hW0 hsm hrs hcap hR hSL hL hm30 hmc
  have HC := Lib.hid hC
  have HW0 := Lib.hid hW0
  have HL := Lib.hid hL
  obtain ⟨R, hRd⟩ : ∃ R, rulesOf L = R := ⟨_, rfl⟩
  have hRl : R.length = m := by rw [← hRd, rulesOf_len, hL]
  have HRd := Lib.hid hRd
  have HRL := Lib.hid hRl
  have hn60 : n ≤ 60 := hsm.2.2
  have HD : Hid (d0 ≤ 64 ∧ d1 ≤ 64) := ⟨by omega, by omega⟩
  have hkr0 := Keeps.refl (fun _ => False) W0
  obtain ⟨s0, s1⟩ := hC.dims W0 hkr0
  clear hR hS hh hhc hLd hSL hW0 hC hL hRl hRd hsm hrs
  go_enter Try.func3, Try.ntmps3
  go_upto_region 2 with fail
  rw [← HW0.out]
  clear HW0 hm hmI hmI2
  go_wp2_with fail
  refine HC.out.small.mono ?_
  rintro e w' ⟨rfl, rfl⟩
  go_wp2_with fail
  refine (HC.out.ref _ hkr0).mono ?_
  rintro e wA ⟨rfl, hkA⟩
  clear s0 s1 hkr0
  go_wp2_with fail
  go_loopg [8, 9] (n + 2) (fun g ov t wy => ∃ (c : Nat), c ≤ n + 2 ∧ g = n + 2 - c ∧ t = .int .i64 ((c : Int) - 1) ∧ Hid (Keeps (fun _ => False) wA wy ∧ OwnI wA wy ov (usesTo R c)))
  case atStart => exact ⟨0, Nat.zero_le _, rfl, rfl, Keeps.refl _ _, World.ownsRow_nil _ _ _ _⟩
  case round =>
    obtain ⟨c, hc, rfl, rfl, HI⟩ := hrel
    obtain ⟨x, hx⟩ : ∃ x, (c : Int) - 1 = x := ⟨_, rfl⟩
    rw [hx]
    have hwx : IntKind.i64.wrap (x + 1) = ((c + 1 : Nat) : Int) - 1 := by rw [show x + 1 = ((c + 1 : Nat) : Int) - 1 by omega]; exact IntWalk.i64_in _ (by omega)
    have HX := Lib.hid hx
    by_cases hlt : c < n + 2
    · have hxI : x ≤ (n : Int) := by omega
      have HWX := Lib.hid hwx
      clear hwx hx
      go_wp2_with fail
      go_loopg [8, 44] m (fun g ov t wy => ∃ (j : Nat), j ≤ m ∧ g = m - j ∧ t = .int .i64 j ∧ Hid (Keeps (fun _ => False) wA wy ∧ OwnI wA wy ov (usesIn R c j)))
      case atStart => exact ⟨0, Nat.zero_le _, rfl, rfl, HI.out.1, by rw [usesIn_zero]; exact HI.out.2⟩
      case round =>
        clear HI
        obtain ⟨j, hj, rfl, rfl, HI⟩ := hrel
        by_cases hlt2 : j < m
        · have hjI : (j : Int) < (m : Int) := by omega
          have hwj : IntKind.i64.wrap ((j : Int) + 1) = (j : Int) + 1 := IntWalk.i64_in _ (by omega)
          obtain ⟨s, hs⟩ : ∃ s, L[j]? = some s := ⟨_, List.getElem?_eq_getElem (by rw [HL.out]; exact hlt2)⟩
          obtain ⟨bb, off, he, hbb, hcc⟩ := (HC.out.row _ (hkA.out.1.trans HI.out.1)) (by rw [HL.out]; omega)
          cases he
          obtain ⟨c0, c1, c2, c3⟩ := hcc j s hs
          have hRj : R[j]? = some s.rule := by rw [← HRd.out]; unfold rulesOf; rw [List.getElem?_map, hs]; rfl
          have HRJ := Lib.hid hRj
          have hsz := HI.out.1.size
          have hul0 := usesIn_len R c j
          obtain ⟨rule, role, who, mid⟩ := s
          simp only [] at c0 c1 c2 c3 HRJ
          have HI0 : Hid (Keeps (fun _ => False) wA wr ∧ OwnI wA wr u8 (usesIn R c j)) := HI.out
          clear hcc hs hRj HI
          go_upto_region 12 with fail
          obtain ⟨w4, hw4⟩ : ∃ w4, wr.alloc (.cells #[.int .i64 rule, .int .i64 role, .int .i64 who, .int .i64 mid] 30) = w4 := ⟨_, rfl⟩
          simp only [hw4]
          have k4 : Keeps (fun _ => False) wr w4 := by rw [← hw4]; exact (Keeps.refl _ _).alloc _
          have z0 : w4.cell? ⟨wr.heap.size, 0, none⟩ = some (.int .i64 rule) := by rw [← hw4]; simp
          have HKX : Hid (Keeps (fun _ => False) wA w4) := HI0.out.1.trans k4
          have HOX : Hid (OwnI wA w4 u8 (usesIn R c j)) := HI0.out.2.keeps k4
          have hsz4 := HKX.out.size
          clear hw4 c0 c1 c2 c3 k4 HI0
          obtain ⟨ao8, cap8, hv8, hle8, hrd8⟩ := HOX.out.reads
          subst hv8
          have HR8 := Lib.hid hrd8
          obtain ⟨ul, hul⟩ : ∃ y, (usesIn R c j).length = y := ⟨_, rfl⟩
          have HUL := Lib.hid hul
          have HOX2 : Hid (w4.ownsRow wA.heap.size 3 1 (.slice ao8 ul cap8) ul (iCells (usesIn R c j))) := by
            have h := HOX.out
            unfold OwnI at h
            rw [hul] at h
            exact h
          clear HOX
          rw [hul] at hle8 hul0 ⊢
          clear hul hrd8
          by_cases e1 : rule = x
          · subst e1
            have HRX : Hid (R[j]? = some ((c : Int) - 1)) := by rw [HX.out]; exact HRJ.out
            clear HRJ
            rcases Nat.eq_zero_or_pos ul with hz | hpos
            · subst hz
              have HZ : Hid (usesIn R c (j + 1) = usesIn R c j ++ [rule]) := by
                show _ = _
                rw [usesIn_same HRX.out, usesIn_nil HUL.out, List.eq_nil_of_length_eq_zero HUL.out, HX.out]
              go_wp2_with (at_builtin; refine wpList_append_own _ rfl _ _ 28 rfl wA.heap.size 3 i0 _ 1 8 Try.underlying28 hi0 hz0 hz1 hz2 rfl (by decide) _ _ _ rfl (HOX2.out.alloc _) ⟨w4.heap.size, 0, none⟩ 1 1 [.int .i64 rule] rfl rfl (cells_new w4 _ _) (by intro u hu; simp only [List.mem_cons, List.not_mem_nil, or_false] at hu; subst hu; rfl) (by unfold maxLen; omega) (by omega) (by simp; omega) ?_)
              intro v2 w6 hown2 hgrow _
              have HN : Hid (Keeps (fun _ => False) wA w6 ∧ OwnI wA w6 v2 (usesIn R c (j + 1))) := by
                refine ⟨?_, ?_⟩
                · exact (HKX.out.trans ((Keeps.refl (fun _ => False) w4).alloc _)).trans_new (keeps_grown hgrow) (fun q hq e => by have := own_block HOX2.out q e; omega)
                · show w6.ownsRow _ _ _ _ (usesIn R c (j + 1)).length (iCells (usesIn R c (j + 1)))
                  rw [HZ.out, iCells_snoc, List.length_append, HUL.out]
                  exact hown2
              clear HOX2 HKX HZ hown2 hgrow
              go_wp2_with fail
              go_roundg (m - (j + 1))
              case measure => omega
              case rel => exact ⟨j + 1, by omega, rfl, by go_num, HN⟩
            · obtain ⟨q, rfl⟩ : ∃ q, ul = q + 1 := ⟨ul - 1, by omega⟩
              have hq0 : ((q : Int) + 1 == 0) = false := beq_eq_false_iff_ne.2 (by omega)
              have hq1 : decide ((q : Int) + 1 = 0) = false := decide_eq_false (by omega)
              have hwq : IntKind.i64.wrap ((q : Nat) : Int) = ((q : Nat) : Int) := IntWalk.i64_in _ (by omega)
              have hqI : (q : Int) < (q : Int) + 1 := by omega
              obtain ⟨y, hy⟩ : ∃ y, (usesIn R c j)[q]? = some y := ⟨_, List.getElem?_eq_getElem (by rw [HUL.out]; omega)⟩
              have HLST := Lib.hid (usesIn_last HUL.out hy)
              obtain ⟨g8, o8, rfl, hg8, hc8⟩ := HR8.out (by rw [HUL.out]; omega)
              have y0 := hc8 q y hy
              clear hc8 hy
              by_cases e2 : y = rule
              · subst e2
                have HZ : Hid (usesIn R c (j + 1) = usesIn R c j) := by
                  show _ = _
                  rw [usesIn_same HRX.out]
                  rcases HLST.out with h | h
                  · exact h.2.symm
                  · exact absurd (HX.out.symm) h.1
                have HN : Hid (Keeps (fun _ => False) wA w4 ∧ OwnI wA w4 (.slice (some ⟨g8, o8, none⟩) (q + 1) cap8) (usesIn R c (j + 1))) := ⟨HKX.out, by
                  show w4.ownsRow _ _ _ _ (usesIn R c (j + 1)).length (iCells (usesIn R c (j + 1)))
                  rw [HZ.out, HUL.out]
                  exact HOX2.out⟩
                clear HOX2 HZ
                go_wp2_with fail
                go_roundg (m - (j + 1))
                case measure => omega
                case rel => exact ⟨j + 1, by omega, rfl, by go_num, HN⟩
              · have e3 : (y != rule) = true := by simpa using e2
                have e4 : decide (y = rule) = false := decide_eq_false e2
                have HZ : Hid (usesIn R c (j + 1) = usesIn R c j ++ [rule]) := by
                  show _ = _
                  rw [usesIn_same HRX.out]
                  rcases HLST.out with h | h
                  · exact absurd (h.1.trans HX.out) e2
                  · rw [h.2, HX.out]
                clear e2
                go_wp2_with (at_builtin; refine wpList_append_own _ rfl _ _ 28 rfl wA.heap.size 3 i0 _ 1 8 Try.underlying28 hi0 hz0 hz1 hz2 rfl (by decide) _ _ _ rfl (HOX2.out.alloc _) ⟨w4.heap.size, 0, none⟩ 1 1 [.int .i64 rule] rfl rfl (cells_new w4 _ _) (by intro u hu; simp only [List.mem_cons, List.not_mem_nil, or_false] at hu; subst hu; rfl) (by unfold maxLen; omega) (by omega) (by simp; omega) ?_)
                intro v2 w6 hown2 hgrow _
                have HN : Hid (Keeps (fun _ => False) wA w6 ∧ OwnI wA w6 v2 (usesIn R c (j + 1))) := by
                  refine ⟨?_, ?_⟩
                  · exact (HKX.out.trans ((Keeps.refl (fun _ => False) w4).alloc _)).trans_new (keeps_grown hgrow) (fun q hq e => by have := own_block HOX2.out q e; omega)
                  · show w6.ownsRow _ _ _ _ (usesIn R c (j + 1)).length (iCells (usesIn R c (j + 1)))
                    rw [HZ.out, iCells_snoc, List.length_append, HUL.out]
                    exact hown2
                clear HOX2 HKX HZ hown2 hgrow
                go_wp2_with fail
                go_roundg (m - (j + 1))
                case measure => omega
                case rel => exact ⟨j + 1, by omega, rfl, by go_num, HN⟩
          · have e3 : (rule == x) = false := by simpa using e1
            have e4 : decide (rule = x) = false := decide_eq_false e1
            have HZ : Hid (usesIn R c (j + 1) = usesIn R c j) := usesIn_other HRJ.out (fun e => e1 (e.trans HX.out))
            clear e1 HRJ
            have HN : Hid (Keeps (fun _ => False) wA w4 ∧ OwnI wA w4 (.slice ao8 ul cap8) (usesIn R c (j + 1))) := ⟨HKX.out, by
              show w4.ownsRow _ _ _ _ (usesIn R c (j + 1)).length (iCells (usesIn R c (j + 1)))
              rw [HZ.out, HUL.out]
              exact HOX2.out⟩
            clear HOX2 HZ
            go_wp2_with fail
            go_roundg (m - (j + 1))
            case measure => omega
            case rel => exact ⟨j + 1, by omega, rfl, by go_num, HN⟩
        · obtain rfl : j = m := by omega
          have hjI : ¬ (j : Int) < (j : Int) := by omega
          have HN : Hid (Keeps (fun _ => False) wA wr ∧ OwnI wA wr u8 (usesTo R (c + 1))) := ⟨HI.out.1, by rw [← usesIn_all R c j (by rw [HRL.out]; exact Nat.le_refl _)]; exact HI.out.2⟩
          have hwx := HWX.out
          clear HI HX
          go_wp2_with fail
          go_roundg (n + 2 - (c + 1))
          case measure => omega
          case rel => exact ⟨c + 1, by omega, rfl, by congr 1; omega, HN⟩
    · have hce : c = n + 2 := by omega
      have hxI : ¬ x ≤ (n : Int) := by omega
      have HB : Hid (Keeps (fun _ => False) W0 wr ∧ ReadsI wr u8 (usesTo R (n + 2))) := ⟨hkA.out.1.trans HI.out.1, by rw [← hce]; exact HI.out.2.reads⟩
      clear HI hwx hx HX hkA hce hc hlt
      go_wp2_with fail
      go_loopg [8, 74] m (fun g ov t wy => ∃ (j : Nat) (M : List Int), j ≤ m ∧ g = m - j ∧ t = .int .i64 j ∧ Hid (Keeps (fun _ => False) W0 wy ∧ ReadsI wy ov M ∧ (M = suppL R ∨ (M = usesTo R (n + 2) ∧ ∀ (i : Nat) (x : Int), i < j → R[i]? = some x → -1 ≤ x ∧ x ≤ (n : Int)))))
      case atStart => exact ⟨0, _, Nat.zero_le _, rfl, rfl, HB.out.1, HB.out.2, .inr ⟨rfl, fun i x h => absurd h (Nat.not_lt_zero _)⟩⟩
      case round =>
        clear HB
        obtain ⟨j, M, hj, rfl, rfl, HI⟩ := hrel
        by_cases hlt2 : j < m
        · have hjI : (j : Int) < (m : Int) := by omega
          have hwj : IntKind.i64.wrap ((j : Int) + 1) = (j : Int) + 1 := IntWalk.i64_in _ (by omega)
          obtain ⟨s, hs⟩ : ∃ s, L[j]? = some s := ⟨_, List.getElem?_eq_getElem (by rw [HL.out]; exact hlt2)⟩
          obtain ⟨bb, off, he, hbb, hcc⟩ := (HC.out.row _ HI.out.1) (by rw [HL.out]; omega)
          cases he
          obtain ⟨c0, c1, c2, c3⟩ := hcc j s hs
          have hRj : R[j]? = some s.rule := by rw [← HRd.out]; unfold rulesOf; rw [List.getElem?_map, hs]; rfl
          have HRJ := Lib.hid hRj
          obtain ⟨rule, role, who, mid⟩ := s
          simp only [] at c0 c1 c2 c3 HRJ
          have hal : Keeps (fun _ => False) wr (wr.alloc (.cells #[.int .i64 rule, .int .i64 role, .int .i64 who, .int .i64 mid] 30)) := (Keeps.refl _ _).alloc _
          have HU := Lib.hid (HC.out.uses _ (HI.out.1.trans hal))
          have HAL := Lib.hid hal
          clear hcc hs hRj hal
          by_cases e1 : rule < -1
          · have e3 : decide (rule < -1) = true := decide_eq_true e1
            clear HRJ HI
            go_wp2_with fail
            refine HU.out.mono ?_
            rintro e wU ⟨vU, rfl, hU⟩
            have HN : Hid (Keeps (fun _ => False) W0 wU ∧ ReadsI wU vU (suppL R)) := ⟨hU.out.2.1, by rw [← HRd.out]; exact hU.out.2.2⟩
            clear HU hU
            go_wp2_with fail
            go_roundg (m - (j + 1))
            case measure => omega
            case rel => exact ⟨j + 1, suppL R, by omega, rfl, by go_num, HN.out.1, HN.out.2, .inl rfl⟩
          · have e3 : decide (rule < -1) = false := decide_eq_false e1
            by_cases e2 : (n : Int) < rule
            · have e4 : decide ((n : Int) < rule) = true := decide_eq_true e2
              clear HRJ HI
              go_wp2_with fail
              refine HU.out.mono ?_
              rintro e wU ⟨vU, rfl, hU⟩
              have HN : Hid (Keeps (fun _ => False) W0 wU ∧ ReadsI wU vU (suppL R)) := ⟨hU.out.2.1, by rw [← HRd.out]; exact hU.out.2.2⟩
              clear HU hU
              go_wp2_with fail
              go_roundg (m - (j + 1))
              case measure => omega
              case rel => exact ⟨j + 1, suppL R, by omega, rfl, by go_num, HN.out.1, HN.out.2, .inl rfl⟩
            · have e4 : decide ((n : Int) < rule) = false := decide_eq_false e2
              have HN : Hid (∀ w', Keeps (fun _ => False) wr w' → Keeps (fun _ => False) W0 w' ∧ ReadsI w' u8 M ∧ (M = suppL R ∨ (M = usesTo R (n + 2) ∧ ∀ (i : Nat) (x : Int), i < j + 1 → R[i]? = some x → -1 ≤ x ∧ x ≤ (n : Int)))) := fun w' hk => by
                refine ⟨HI.out.1.trans hk, HI.out.2.1.keeps hk, ?_⟩
                rcases HI.out.2.2 with h | ⟨h, h2⟩
                · exact .inl h
                · refine .inr ⟨h, fun i x hi hx => ?_⟩
                  rcases Nat.lt_or_eq_of_le (Nat.le_of_lt_succ hi) with h3 | h3
                  · exact h2 i x h3 hx
                  · subst h3
                    have := HRJ.out
                    rw [this] at hx
                    cases hx
                    omega
              clear HU HI HRJ
              go_wp2_with fail
              go_roundg (m - (j + 1))
              case measure => omega
              case rel => exact ⟨j + 1, M, by omega, rfl, by go_num, HN.out _ HAL.out⟩
        · obtain rfl : j = m := by omega
          have hjI : ¬ (j : Int) < (j : Int) := by omega
          have hM : M = suppL R := by
            rcases HI.out.2.2 with h | ⟨h, h2⟩
            · exact h
            · rw [h]
              refine usesTo_supp (fun x hx => ?_)
              obtain ⟨i, hi, hix⟩ := List.mem_iff_getElem.1 hx
              exact h2 i x (by rw [HRL.out] at hi; exact hi) (by rw [List.getElem?_eq_getElem hi, hix])
          subst hM
          have HKC : Hid (Keeps (fun _ => False) W0 wr) := HI.out.1
          have HRD : Hid (∀ w', Keeps (fun _ => False) wr w' → ReadsI w' u8 (suppL (rulesOf L))) := fun w' hk => by rw [HRd.out]; exact HI.out.2.1.keeps hk
          clear HI
          rcases Nat.eq_zero_or_pos j with hz | hpos
          · subst hz
            have hLn : L = [] := List.eq_nil_of_length_eq_zero HL.out
            have HBT : Hid (b0 = true) := HC.out.iff.2 (by rw [hLn]; intro i s hs; simp at hs)
            have HPV : Hid (false = true ↔ Prv d0 d1 rs L 0 0) := ⟨fun h => (by cases h), fun ⟨s, hs, _⟩ => by rw [hLn] at hs; simp at hs⟩
            have HNG : Hid (∀ who, false = true ↔ Prv d0 d1 rs L (-1) who) := fun who => ⟨fun h => (by cases h), fun ⟨s, hs, _⟩ => by rw [hLn] at hs; simp at hs⟩
            clear hLn
            cases b0 with
            | true =>
              have hk0 := HKC.out
              obtain ⟨s0, s1⟩ := HC.out.dims _ hk0
              go_wp2_with fail
              refine (HC.out.chk _ hk0).mono ?_
              rintro e wD ⟨rfl, hkD⟩
              clear s0 s1
              obtain ⟨s0, s1⟩ := HC.out.dims _ hkD.out.1
              go_wp2_with fail
              refine (HC.out.prv _ 0 0 false hkD.out.1 (by have h := HPV.out; first | exact h | simpa using h)).mono ?_
              rintro e wE ⟨rfl, hkE⟩
              clear s0 s1
              obtain ⟨s0, s1⟩ := HC.out.dims _ hkE.out.1
              go_wp2_with fail
              refine (HC.out.prv _ (-1) 0 false hkE.out.1 (HNG.out _)).mono ?_
              rintro e wF ⟨rfl, hkF⟩
              clear s0 s1
              go_wp2_with fail
              refine (HC.out.uses _ hkF.out.1).mono ?_
              rintro e wG ⟨vG, rfl, hG⟩
              have HSM := Lib.hid (HC.out.same _ _ _ hG.out.2.1 hG.out.2.2 (HRD.out wG (hkD.out.2.trans (hkE.out.2.trans (hkF.out.2.trans hG.out.1)))))
              go_wp2_with fail
              refine HSM.out.mono ?_
              rintro e wH ⟨rfl, hkH⟩
              clear HSM hG hkF hkE hkD hk0
              go_wp2_with fail
              refine (HC.out.lives _ hkH.out.1).mono ?_
              rintro e wI ⟨rfl, hbI⟩
              clear hkH
              go_wp2_with fail
              go_ret
              exact ⟨rfl, hbI.out⟩
            | false => exact absurd HBT.out (by decide)
          · obtain ⟨q, rfl⟩ : ∃ q, j = q + 1 := ⟨j - 1, by omega⟩
            obtain ⟨sl, hsl⟩ : ∃ s, L[q]? = some s := ⟨_, List.getElem?_eq_getElem (by rw [HL.out]; omega)⟩
            have hq1 : L.length - 1 = q := by rw [HL.out]; omega
            have hd64 : d0 ≤ 64 ∧ d1 ≤ 64 := HD.out
            have HPV0 : Hid (Chk d0 d1 rs L ↔ Prv d0 d1 rs L sl.role sl.who) := by
              constructor
              · intro h; exact ⟨sl, by rw [hq1]; exact hsl, rfl, rfl, h⟩
              · rintro ⟨_, _, _, _, h⟩; exact h
            have HNG : Hid (∀ who, false = true ↔ Prv d0 d1 rs L (-1) who) := fun who => ⟨fun h => (by cases h), fun ⟨s, hs, h1, _, h2⟩ => by
              rw [hq1] at hs
              have := neg_head hd64.1 hd64.2 (h2 q s hs)
              omega⟩
            obtain ⟨bb, off, he, hbb, hcc⟩ := (HC.out.row _ HKC.out) (by rw [HL.out]; omega)
            cases he
            obtain ⟨c0, c1, c2, c3⟩ := hcc q sl hsl
            have hwq : IntKind.i64.wrap ((q : Nat) : Int) = ((q : Nat) : Int) := IntWalk.i64_in _ (by omega)
            have hqI : (q : Int) < (q : Int) + 1 := by omega
            have hq0 : (0 : Int) < (q : Int) + 1 := by omega
            obtain ⟨rule, role, who, mid⟩ := sl
            simp only [] at c0 c1 c2 c3 HPV0
            clear hcc hsl hq1 hd64
            go_upto_region 23 with fail
            go_quiet (fail)
            have HPV : Hid (b0 = true ↔ Prv d0 d1 rs L role who) := HC.out.iff.trans HPV0.out
            have HKC1 : Hid (Keeps (fun _ => False) W0 (wr.drewN nq)) := HKC.out.drewN nq
            have HRD1 : Hid (∀ w', Keeps (fun _ => False) (wr.drewN nq) w' → ReadsI w' u8 (suppL (rulesOf L))) := fun w' hk => HRD.out w' (((Keeps.refl _ _).drewN nq).trans hk)
            clear HPV0 c0 c1 c2 c3 HKC HRD
            have HKC := HKC1
            have HRD := HRD1
            clear HKC1 HRD1
            cases b0 with
            | true =>
              have hk0 := HKC.out
              obtain ⟨s0, s1⟩ := HC.out.dims _ hk0
              go_wp2_with fail
              refine (HC.out.chk _ hk0).mono ?_
              rintro e wD ⟨rfl, hkD⟩
              clear s0 s1
              obtain ⟨s0, s1⟩ := HC.out.dims _ hkD.out.1
              go_wp2_with fail
              refine (HC.out.prv _ role who true hkD.out.1 (by have h := HPV.out; first | exact h | simpa using h)).mono ?_
              rintro e wE ⟨rfl, hkE⟩
              clear s0 s1
              obtain ⟨s0, s1⟩ := HC.out.dims _ hkE.out.1
              go_wp2_with fail
              refine (HC.out.prv _ (-1) who false hkE.out.1 (HNG.out _)).mono ?_
              rintro e wF ⟨rfl, hkF⟩
              clear s0 s1
              go_wp2_with fail
              refine (HC.out.uses _ hkF.out.1).mono ?_
              rintro e wG ⟨vG, rfl, hG⟩
              have HSM := Lib.hid (HC.out.same _ _ _ hG.out.2.1 hG.out.2.2 (HRD.out wG (hkD.out.2.trans (hkE.out.2.trans (hkF.out.2.trans hG.out.1)))))
              go_wp2_with fail
              refine HSM.out.mono ?_
              rintro e wH ⟨rfl, hkH⟩
              clear HSM hG hkF hkE hkD hk0
              go_wp2_with fail
              refine (HC.out.lives _ hkH.out.1).mono ?_
              rintro e wI ⟨rfl, hbI⟩
              clear hkH
              go_wp2_with fail
              go_ret
              exact ⟨rfl, hbI.out⟩
            | false =>
              have hk0 := HKC.out
              obtain ⟨s0, s1⟩ := HC.out.dims _ hk0
              go_wp2_with fail
              refine (HC.out.chk _ hk0).mono ?_
              rintro e wD ⟨rfl, hkD⟩
              clear s0 s1
              obtain ⟨s0, s1⟩ := HC.out.dims _ hkD.out.1
              go_wp2_with fail
              refine (HC.out.prv _ role who false hkD.out.1 (by have h := HPV.out; first | exact h | simpa using h)).mono ?_
              rintro e wE ⟨rfl, hkE⟩
              clear s0 s1
              obtain ⟨s0, s1⟩ := HC.out.dims _ hkE.out.1
              go_wp2_with fail
              refine (HC.out.prv _ (-1) who false hkE.out.1 (HNG.out _)).mono ?_
              rintro e wF ⟨rfl, hkF⟩
              clear s0 s1
              go_wp2_with fail
              refine (HC.out.uses _ hkF.out.1).mono ?_
              rintro e wG ⟨vG, rfl, hG⟩
              have HSM := Lib.hid (HC.out.same _ _ _ hG.out.2.1 hG.out.2.2 (HRD.out wG (hkD.out.2.trans (hkE.out.2.trans (hkF.out.2.trans hG.out.1)))))
              go_wp2_with fail
              refine HSM.out.mono ?_
              rintro e wH ⟨rfl, hkH⟩
              clear HSM hG hkF hkE hkD hk0
              go_wp2_with fail
              refine (HC.out.lives _ hkH.out.1).mono ?_
              rintro e wI ⟨rfl, hbI⟩
              clear hkH
              go_wp2_with fail
              go_ret
              exact ⟨rfl, hbI.out⟩
theorem proofChecks_none (w : World) (d0 d1 : Int) (ao : Option Addr) (n cap : Nat) (rs : List Rl) (hrs : rs.length = n) (hcap : n ≤ cap) (hR : RuleRow w ao rs) (hsm : d0 ≤ 10 ∧ d1 ≤ 6 ∧ n ≤ 60) :
    Calls Try.prog 3 #[.agg #[.int .i64 d0, .int .i64 d1], .slice ao n cap, .slice none 0 0] w fun e w' => e = .returned (.bool true) ∧ Below w.heap.size w w' := by
  obtain ⟨W0, hW0⟩ : ∃ W0, W0 = w.alloc (.cells #[.int .i64 d0, .int .i64 d1] 22) := ⟨_, rfl⟩
  obtain ⟨b0, hC⟩ := lawC_of (so := none) (m := 0) (hcp := 0) (L := []) hW0 hsm hrs hcap hR (fun h => absurd h (Nat.lt_irrefl _)) rfl (by omega) (by omega)
  have HC := Lib.hid hC
  have HW0 := Lib.hid hW0
  have hn60 : n ≤ 60 := hsm.2.2
  have hkr0 := Keeps.refl (fun _ => False) W0
  obtain ⟨s0, s1⟩ := hC.dims W0 hkr0
  have hm0 : min (0 : Int) 30 = 0 := by decide
  have HBT : Hid (b0 = true) := HC.out.iff.2 (by intro i s hs; simp at hs)
  have HPV : Hid (false = true ↔ Prv d0 d1 rs [] 0 0) := ⟨fun h => (by cases h), fun ⟨s, hs, _⟩ => by simp at hs⟩
  have HNG : Hid (∀ who, false = true ↔ Prv d0 d1 rs [] (-1) who) := fun who => ⟨fun h => (by cases h), fun ⟨s, hs, _⟩ => by simp at hs⟩
  have hsu : suppL (rulesOf []) = [] := List.eq_nil_of_length_eq_zero (by have := supp_len (rulesOf []); rw [rulesOf_len] at this; simpa using this)
  have HRD0 : Hid (∀ w', ReadsI w' (.slice none 0 0) (suppL (rulesOf []))) := fun w' => by rw [hsu]; exact ⟨none, 0, rfl, Nat.le_refl _, fun h => absurd h (by simp)⟩
  clear hR hW0 hC hsm hrs hsu
  go_enter Try.func3, Try.ntmps3
  go_upto_region 2 with fail
  rw [← HW0.out]
  clear HW0
  go_wp2_with fail
  refine HC.out.small.mono ?_
  rintro e w' ⟨rfl, rfl⟩
  go_wp2_with fail
  refine (HC.out.ref _ hkr0).mono ?_
  rintro e wA ⟨rfl, hkA⟩
  clear s0 s1 hkr0
  go_wp2_with fail
  go_loopg [8, 9] (n + 2) (fun g ov t wy => ∃ (c : Nat), c ≤ n + 2 ∧ g = n + 2 - c ∧ ov = .slice none 0 0 ∧ t = .int .i64 ((c : Int) - 1) ∧ wy = wA)
  case atStart => exact ⟨0, Nat.zero_le _, rfl, rfl, rfl, rfl⟩
  case round =>
    obtain ⟨c, hc, rfl, rfl, rfl, rfl⟩ := hrel
    obtain ⟨x, hx⟩ : ∃ x, (c : Int) - 1 = x := ⟨_, rfl⟩
    rw [hx]
    have hwx : IntKind.i64.wrap (x + 1) = ((c + 1 : Nat) : Int) - 1 := by rw [show x + 1 = ((c + 1 : Nat) : Int) - 1 by omega]; exact IntWalk.i64_in _ (by omega)
    by_cases hlt : c < n + 2
    · have hxI : x ≤ (n : Int) := by omega
      have HWX := Lib.hid hwx
      clear hwx hx
      go_wp2_with fail
      go_loopg [8, 44] 0 (fun g ov t wy => ov = .slice none 0 0 ∧ t = .int .i64 0 ∧ wy = wr)
      case atStart => exact ⟨rfl, rfl, rfl⟩
      case round =>
        obtain ⟨rfl, rfl, rfl⟩ := hrel
        have hwx := HWX.out
        go_wp2_with fail
        go_roundg (n + 2 - (c + 1))
        case measure => omega
        case rel => exact ⟨c + 1, by omega, rfl, rfl, by congr 1; omega, rfl⟩
    · have hxI : ¬ x ≤ (n : Int) := by omega
      have hkA1 := hkA.out.1
      have HKA := Lib.hid hkA1
      clear hwx hx hc hlt hkA hkA1
      go_wp2_with fail
      go_loopg [8, 74] 0 (fun g ov t wy => ov = .slice none 0 0 ∧ t = .int .i64 0 ∧ wy = wr)
      case atStart => exact ⟨rfl, rfl, rfl⟩
      case round =>
        obtain ⟨rfl, rfl, rfl⟩ := hrel
        have HKC := HKA
        have HRD : Hid (∀ w', Keeps (fun _ => False) wr w' → ReadsI w' (.slice none 0 0) (suppL (rulesOf []))) := fun w' _ => HRD0.out w'
        clear HKA HRD0
        cases b0 with
        | true =>
          have hk0 := HKC.out
          obtain ⟨s0, s1⟩ := HC.out.dims _ hk0
          go_wp2_with fail
          refine (HC.out.chk _ hk0).mono ?_
          rintro e wD ⟨rfl, hkD⟩
          clear s0 s1
          obtain ⟨s0, s1⟩ := HC.out.dims _ hkD.out.1
          go_wp2_with fail
          refine (HC.out.prv _ 0 0 false hkD.out.1 (by have h := HPV.out; first | exact h | simpa using h)).mono ?_
          rintro e wE ⟨rfl, hkE⟩
          clear s0 s1
          obtain ⟨s0, s1⟩ := HC.out.dims _ hkE.out.1
          go_wp2_with fail
          refine (HC.out.prv _ (-1) 0 false hkE.out.1 (HNG.out _)).mono ?_
          rintro e wF ⟨rfl, hkF⟩
          clear s0 s1
          go_wp2_with fail
          refine (HC.out.uses _ hkF.out.1).mono ?_
          rintro e wG ⟨vG, rfl, hG⟩
          have HSM := Lib.hid (HC.out.same _ _ _ hG.out.2.1 hG.out.2.2 (HRD.out wG (hkD.out.2.trans (hkE.out.2.trans (hkF.out.2.trans hG.out.1)))))
          go_wp2_with fail
          refine HSM.out.mono ?_
          rintro e wH ⟨rfl, hkH⟩
          clear HSM hG hkF hkE hkD hk0
          go_wp2_with fail
          refine (HC.out.lives _ hkH.out.1).mono ?_
          rintro e wI ⟨rfl, hbI⟩
          clear hkH
          go_wp2_with fail
          go_ret
          exact ⟨rfl, hbI.out⟩
        | false => exact absurd HBT.out (by decide)
theorem proofChecks_zero (w : World) (d0 d1 : Int) (ao : Option Addr) (n cap : Nat) (aa : Addr) (hcp : Nat) (rs : List Rl) (hrs : rs.length = n) (hcap : n ≤ cap) (hR : RuleRow w ao rs) (hsm : d0 ≤ 10 ∧ d1 ≤ 6 ∧ n ≤ 60) :
    Calls Try.prog 3 #[.agg #[.int .i64 d0, .int .i64 d1], .slice ao n cap, .slice (some aa) 0 hcp] w fun e w' => e = .returned (.bool true) ∧ Below w.heap.size w w' := by
  obtain ⟨W0, hW0⟩ : ∃ W0, W0 = w.alloc (.cells #[.int .i64 d0, .int .i64 d1] 22) := ⟨_, rfl⟩
  obtain ⟨b0, hC⟩ := lawC_of (so := some aa) (m := 0) (hcp := hcp) (L := []) hW0 hsm hrs hcap hR (fun h => absurd h (Nat.lt_irrefl _)) rfl (by omega) (by omega)
  have HC := Lib.hid hC
  have HW0 := Lib.hid hW0
  have hn60 : n ≤ 60 := hsm.2.2
  have hkr0 := Keeps.refl (fun _ => False) W0
  obtain ⟨s0, s1⟩ := hC.dims W0 hkr0
  have hcI : (0 : Int) ≤ (hcp : Int) := by omega
  have hm0 : min (0 : Int) 30 = 0 := by decide
  have HBT : Hid (b0 = true) := HC.out.iff.2 (by intro i s hs; simp at hs)
  have HPV : Hid (false = true ↔ Prv d0 d1 rs [] 0 0) := ⟨fun h => (by cases h), fun ⟨s, hs, _⟩ => by simp at hs⟩
  have HNG : Hid (∀ who, false = true ↔ Prv d0 d1 rs [] (-1) who) := fun who => ⟨fun h => (by cases h), fun ⟨s, hs, _⟩ => by simp at hs⟩
  have hsu : suppL (rulesOf []) = [] := List.eq_nil_of_length_eq_zero (by have := supp_len (rulesOf []); rw [rulesOf_len] at this; simpa using this)
  have HRD0 : Hid (∀ w', ReadsI w' (.slice none 0 0) (suppL (rulesOf []))) := fun w' => by rw [hsu]; exact ⟨none, 0, rfl, Nat.le_refl _, fun h => absurd h (by simp)⟩
  clear hR hW0 hC hsm hrs hsu
  go_enter Try.func3, Try.ntmps3
  go_upto_region 2 with fail
  rw [← HW0.out]
  clear HW0
  go_wp2_with fail
  refine HC.out.small.mono ?_
  rintro e w' ⟨rfl, rfl⟩
  go_wp2_with fail
  refine (HC.out.ref _ hkr0).mono ?_
  rintro e wA ⟨rfl, hkA⟩
  clear s0 s1 hkr0
  go_wp2_with fail
  go_loopg [8, 9] (n + 2) (fun g ov t wy => ∃ (c : Nat), c ≤ n + 2 ∧ g = n + 2 - c ∧ ov = .slice none 0 0 ∧ t = .int .i64 ((c : Int) - 1) ∧ wy = wA)
  case atStart => exact ⟨0, Nat.zero_le _, rfl, rfl, rfl, rfl⟩
  case round =>
    obtain ⟨c, hc, rfl, rfl, rfl, rfl⟩ := hrel
    obtain ⟨x, hx⟩ : ∃ x, (c : Int) - 1 = x := ⟨_, rfl⟩
    rw [hx]
    have hwx : IntKind.i64.wrap (x + 1) = ((c + 1 : Nat) : Int) - 1 := by rw [show x + 1 = ((c + 1 : Nat) : Int) - 1 by omega]; exact IntWalk.i64_in _ (by omega)
    by_cases hlt : c < n + 2
    · have hxI : x ≤ (n : Int) := by omega
      have HWX := Lib.hid hwx
      clear hwx hx
      go_wp2_with fail
      go_loopg [8, 44] 0 (fun g ov t wy => ov = .slice none 0 0 ∧ t = .int .i64 0 ∧ wy = wr)
      case atStart => exact ⟨rfl, rfl, rfl⟩
      case round =>
        obtain ⟨rfl, rfl, rfl⟩ := hrel
        have hwx := HWX.out
        go_wp2_with fail
        go_roundg (n + 2 - (c + 1))
        case measure => omega
        case rel => exact ⟨c + 1, by omega, rfl, rfl, by congr 1; omega, rfl⟩
    · have hxI : ¬ x ≤ (n : Int) := by omega
      have hkA1 := hkA.out.1
      have HKA := Lib.hid hkA1
      clear hwx hx hc hlt hkA hkA1
      go_wp2_with fail
      go_loopg [8, 74] 0 (fun g ov t wy => ov = .slice none 0 0 ∧ t = .int .i64 0 ∧ wy = wr)
      case atStart => exact ⟨rfl, rfl, rfl⟩
      case round =>
        obtain ⟨rfl, rfl, rfl⟩ := hrel
        have HKC := HKA
        have HRD : Hid (∀ w', Keeps (fun _ => False) wr w' → ReadsI w' (.slice none 0 0) (suppL (rulesOf []))) := fun w' _ => HRD0.out w'
        clear HKA HRD0
        cases b0 with
        | true =>
          have hk0 := HKC.out
          obtain ⟨s0, s1⟩ := HC.out.dims _ hk0
          go_wp2_with fail
          refine (HC.out.chk _ hk0).mono ?_
          rintro e wD ⟨rfl, hkD⟩
          clear s0 s1
          obtain ⟨s0, s1⟩ := HC.out.dims _ hkD.out.1
          go_wp2_with fail
          refine (HC.out.prv _ 0 0 false hkD.out.1 (by have h := HPV.out; first | exact h | simpa using h)).mono ?_
          rintro e wE ⟨rfl, hkE⟩
          clear s0 s1
          obtain ⟨s0, s1⟩ := HC.out.dims _ hkE.out.1
          go_wp2_with fail
          refine (HC.out.prv _ (-1) 0 false hkE.out.1 (HNG.out _)).mono ?_
          rintro e wF ⟨rfl, hkF⟩
          clear s0 s1
          go_wp2_with fail
          refine (HC.out.uses _ hkF.out.1).mono ?_
          rintro e wG ⟨vG, rfl, hG⟩
          have HSM := Lib.hid (HC.out.same _ _ _ hG.out.2.1 hG.out.2.2 (HRD.out wG (hkD.out.2.trans (hkE.out.2.trans (hkF.out.2.trans hG.out.1)))))
          go_wp2_with fail
          refine HSM.out.mono ?_
          rintro e wH ⟨rfl, hkH⟩
          clear HSM hG hkF hkE hkD hk0
          go_wp2_with fail
          refine (HC.out.lives _ hkH.out.1).mono ?_
          rintro e wI ⟨rfl, hbI⟩
          clear hkH
          go_wp2_with fail
          go_ret
          exact ⟨rfl, hbI.out⟩
        | false => exact absurd HBT.out (by decide)
theorem proofChecks_not (w : World) (d0 d1 : Int) (ao : Option Addr) (n cap : Nat) (so : Option Addr) (hn hcp : Nat) (hso : so = none → hn = 0 ∧ hcp = 0) (hhc : hn ≤ hcp) (hsm : ¬ (d0 ≤ 10 ∧ d1 ≤ 6 ∧ n ≤ 60)) :
    Calls Try.prog 3 #[.agg #[.int .i64 d0, .int .i64 d1], .slice ao n cap, .slice so hn hcp] w fun e w' => e = .returned (.bool true) ∧ Below w.heap.size w w' := by
  have HS0 := ssmall_spec d0 d1 ao n cap (w.alloc (.cells #[.int .i64 d0, .int .i64 d1] 22))
  rw [decide_eq_false hsm] at HS0
  have HS := Lib.hid HS0
  have HLV : Hid (Calls Try.prog 6 #[] (w.alloc (.cells #[.int .i64 d0, .int .i64 d1] 22)) fun e W' => e = .returned (.bool true) ∧ Below w.heap.size w W') := (plives_any _).mono fun e W' ⟨he, hb⟩ => ⟨he, (((Keeps.refl (fun _ => False) w).alloc _).trans (Keeps.of_below hb (Nat.le_refl _))).below (Nat.le_refl _) (fun _ _ x => x)⟩
  clear HS0 hsm
  cases so with
  | none =>
    obtain ⟨rfl, rfl⟩ := hso rfl
    have hm0 : min (0 : Int) 30 = 0 := by decide
    go_enter Try.func3, Try.ntmps3
    go_wp2_with fail
    refine HS.out.mono ?_
    rintro e w' ⟨rfl, rfl⟩
    go_wp2_with fail
    refine HLV.out.mono ?_
    rintro e w' ⟨rfl, hb⟩
    have HB := Lib.hid hb
    clear hb HS HLV
    go_wp2_with fail
    go_ret
    exact ⟨rfl, HB.out⟩
  | some a =>
    obtain ⟨m, hm⟩ : ∃ m, min hn 30 = m := ⟨_, rfl⟩
    have hmc : m ≤ hcp := by omega
    have hmI : min (hn : Int) 30 = (m : Int) := by omega
    have hmI2 : (m : Int) ≤ (hcp : Int) := by omega
    clear hm hso
    go_enter Try.func3, Try.ntmps3
    go_wp2_with fail
    refine HS.out.mono ?_
    rintro e w' ⟨rfl, rfl⟩
    go_wp2_with fail
    refine HLV.out.mono ?_
    rintro e w' ⟨rfl, hb⟩
    have HB := Lib.hid hb
    clear hb HS HLV
    go_wp2_with fail
    go_ret
    exact ⟨rfl, HB.out⟩
theorem proofChecks_any (w : World) (d0 d1 : Int) (ao : Option Addr) (n cap : Nat) (rs : List Rl) (hrs : rs.length = n) (hcap : n ≤ cap) (hR : RuleRow w ao rs) (so : Option Addr) (hn hcp : Nat) (l : List Sp) (hS : StRow w so l) (hh : l.length = hn) (hhc : hn ≤ hcp) (hso : so = none → hcp = 0) :
    Calls Try.prog 3 #[.agg #[.int .i64 d0, .int .i64 d1], .slice ao n cap, .slice so hn hcp] w fun e w' => e = .returned (.bool true) ∧ Below w.heap.size w w' := by
  by_cases hsm : d0 ≤ 10 ∧ d1 ≤ 6 ∧ n ≤ 60
  · rcases Nat.eq_zero_or_pos hn with h0 | hpos
    · subst h0
      cases so with
      | none =>
        obtain rfl := hso rfl
        exact proofChecks_none w d0 d1 ao n cap rs hrs hcap hR hsm
      | some a => exact proofChecks_zero w d0 d1 ao n cap a hcp rs hrs hcap hR hsm
    · obtain ⟨bs, os, rfl, _⟩ := hS (by omega)
      exact proofChecks_some w d0 d1 ao n cap rs hrs hcap hR bs os hn hcp l hS hh hhc hsm
  · exact proofChecks_not w d0 d1 ao n cap so hn hcp (fun e => by have := hso e; omega) hhc hsm
theorem IsRow.steps {w : World} {ao : Option Addr} {n cap : Nat} {G : Nat → Nat → Value} (R : IsRow w [.int .i64, .int .i64, .int .i64, .int .i64] ao n cap G) :
    ∃ l : List Sp, l.length = n ∧ StRow w ao l := by
  have key : ∀ i, i < n → ∃ r : Sp, (G i 0 = .int .i64 r.rule ∧ G i 1 = .int .i64 r.role ∧ G i 2 = .int .i64 r.who ∧ G i 3 = .int .i64 r.mid) := fun i hi => by
    obtain ⟨z0, h0, w0⟩ := R.ok i 0 _ hi rfl
    obtain ⟨z1, h1, w1⟩ := R.ok i 1 _ hi rfl
    obtain ⟨z2, h2, w2⟩ := R.ok i 2 _ hi rfl
    obtain ⟨z3, h3, w3⟩ := R.ok i 3 _ hi rfl
    exact ⟨⟨z0, z1, z2, z3⟩, h0, h1, h2, h3⟩
  have : Inhabited Sp := ⟨⟨0, 0, 0, 0⟩⟩
  obtain ⟨f, hf⟩ := choose_lt key
  refine ⟨(List.range n).map f, by simp, fun h0 => ?_⟩
  obtain ⟨b, off, h1, h2, h3⟩ := R.at_ (by simpa using h0)
  refine ⟨b, off, h1, h2, fun i r hr => ?_⟩
  have hi : i < n := by
    rcases Nat.lt_or_ge i n with h | h
    · exact h
    · rw [List.getElem?_eq_none (by simpa using h)] at hr; cases hr
  have he : r = f i := by simpa [List.getElem?_range hi] using hr.symm
  subst he
  obtain ⟨g0, g1, g2, g3⟩ := hf i hi
  have e : ∀ j, j < 4 → w.cell? ⟨b, off + i * 4 + j, none⟩ = some (G i j) := fun j hj => by
    have := h3 i j hi (by simpa using hj)
    rw [show off + i * 4 + j = off + (i * 4 + j) by omega]
    exact this
  exact ⟨(e 0 (by omega)).trans (by rw [g0]), (e 1 (by omega)).trans (by rw [g1]), (e 2 (by omega)).trans (by rw [g2]), (e 3 (by omega)).trans (by rw [g3])⟩
theorem proofChecks_core (w : World) (c : Array Value) (hs : c.size = 2) (hf : Fits [.int .i64, .int .i64] 0 c.toList) (ao : Option Addr) (n cap : Nat) (G : Nat → Nat → Value) (R : IsRow w [.int .i64, .int .i64, .int .i64, .int .i64, .int .i64, .int .i64] ao n cap G)
    (so : Option Addr) (hn hcp : Nat) (G2 : Nat → Nat → Value) (R2 : IsRow w [.int .i64, .int .i64, .int .i64, .int .i64] so hn hcp G2) (hso : so = none → hcp = 0) :
    Calls Try.prog 3 #[.agg c, .slice ao n cap, .slice so hn hcp] w fun e w' => e = .returned (.bool true) ∧ Below w.heap.size w w' := by
  obtain ⟨x, y, rfl⟩ := dims_of_fits hs hf
  obtain ⟨rs, hrs, hR, _⟩ := R.rules
  obtain ⟨l, hl, hS⟩ := R2.steps
  exact proofChecks_any w x y ao n cap rs hrs R.le hR so hn hcp l hS hl R2.le hso
end Go.Proofs.Ytahnedkdodjomaa
