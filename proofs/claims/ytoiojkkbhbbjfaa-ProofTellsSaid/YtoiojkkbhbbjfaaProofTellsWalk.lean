/-
  The walk of the law ProofTells.
-/
import Derived.Test.YtoiojkkbhbbjfaaProofLaw
import Derived.Deep.RegionHeld3
set_option linter.unusedVariables false
set_option linter.unusedSimpArgs false
set_option linter.unnecessarySimpa false
namespace Go.Proofs.Ytoiojkkbhbbjfaa
open Go.ChangeShapes Go.WideShapes Go.ChangeAt Go.RowKit Go.Deep SetPlain
set_option maxRecDepth 100000
set_option maxHeartbeats 6400000
theorem proofTells_any (w : World) (d0 d1 : Int) (ao : Option Addr) (n cap : Nat) (rs : List Rl) (hrs : rs.length = n) (hcap : n ≤ cap) (hR : RuleRow w ao rs) (a b : Int) (ha : I64 a) (hb : I64 b) :
    Calls Try.prog 3 #[.agg #[.int .i64 d0, .int .i64 d1], .slice ao n cap, .agg #[.int .i64 a, .int .i64 b]] w fun e w' => e = .returned (.bool true) ∧ Below w.heap.size w w' := by
  obtain ⟨W0, hW0⟩ : ∃ W0, W0 = (w.alloc (.cells #[.int .i64 d0, .int .i64 d1] 22)).alloc (.cells #[.int .i64 a, .int .i64 b] 22) := ⟨_, rfl⟩
  have hk0 : Keeps (fun _ => False) w W0 := by rw [hW0]; exact ((Keeps.refl _ _).alloc _).alloc _
  have hS0 : W0.cell? ⟨w.heap.size, 0, none⟩ = some (.int .i64 d0) ∧ W0.cell? ⟨w.heap.size, 1, none⟩ = some (.int .i64 d1) ∧ W0.cell? ⟨w.heap.size + 1, 0, none⟩ = some (.int .i64 a) ∧ W0.cell? ⟨w.heap.size + 1, 1, none⟩ = some (.int .i64 b) := by
    rw [hW0]
    refine ⟨?_, ?_, ?_, ?_⟩ <;> simp [World.cell?_alloc_past]
  have HS := Lib.hid (ssmall_spec d0 d1 ao n cap W0)
  have HKB : Hid (∀ W, Keeps (fun _ => False) W0 W → Below w.heap.size w W) := fun W hk => (hk0.trans hk).below (Nat.le_refl _) (fun _ _ x => x)
  have HLV : Hid (∀ W, Keeps (fun _ => False) W0 W → Calls Try.prog 5 #[] W fun e W' => e = .returned (.bool true) ∧ Keeps (fun _ => False) W0 W') := fun W hk =>
    (plives_any W).mono fun e W' ⟨he, hb⟩ => ⟨he, hk.trans (Keeps.of_below hb (Nat.le_refl _))⟩
  have HKS : Hid (∀ W, Keeps (fun _ => False) W0 W → W.cell? ⟨w.heap.size, 0, none⟩ = some (.int .i64 d0) ∧ W.cell? ⟨w.heap.size, 1, none⟩ = some (.int .i64 d1) ∧ W.cell? ⟨w.heap.size + 1, 0, none⟩ = some (.int .i64 a) ∧ W.cell? ⟨w.heap.size + 1, 1, none⟩ = some (.int .i64 b)) := fun W hk => by
    obtain ⟨s0, s1, s2, s3⟩ := hS0
    have l0 : w.heap.size < W0.heap.size := lt_of_cell s0
    have l1 : w.heap.size + 1 < W0.heap.size := lt_of_cell s2
    have c0 : ∀ i, W.cell? ⟨w.heap.size, i, none⟩ = W0.cell? ⟨w.heap.size, i, none⟩ := fun i => hk.cell (p := ⟨w.heap.size, i, none⟩) l0 (fun x => x)
    have c1 : ∀ i, W.cell? ⟨w.heap.size + 1, i, none⟩ = W0.cell? ⟨w.heap.size + 1, i, none⟩ := fun i => hk.cell (p := ⟨w.heap.size + 1, i, none⟩) l1 (fun x => x)
    exact ⟨(c0 0).trans s0, (c0 1).trans s1, (c1 0).trans s2, (c1 1).trans s3⟩
  by_cases hsm : d0 ≤ 10 ∧ d1 ≤ 6 ∧ n ≤ 60
  · rw [decide_eq_true hsm] at HS
    obtain ⟨hs0, hs1, hs2⟩ := hsm
    obtain ⟨P, hP⟩ := within_cases d0 64
    obtain ⟨K, hK⟩ := within_cases d1 64
    have hPl : P ≤ 10 := by unfold Within at hP; omega
    have hKl : K ≤ 6 := by unfold Within at hK; omega
    have HKR : Hid (∀ W, Keeps (fun _ => False) W0 W → RuleRow W ao rs) := fun W hk => hR.keeps (HKB.out W hk) (fun _ _ _ h => h)
    have HEV : Hid (∀ W, Keeps (fun _ => False) W0 W → Calls Try.prog 6 #[.int .i64 d0, .int .i64 d1, .slice ao n cap] W fun e W' => ∃ m, e = .returned (.pointer (some ⟨m, 0, none⟩)) ∧ Hid (∃ ao1 cap1 rb In, RefM W' m ao1 cap1 rb P K (P * K) In ∧ ∀ x y, hasB (P * K) P In x y = true ↔ DerAt P K rs x y) ∧ Hid (Keeps (fun _ => False) W0 W')) := fun W hk =>
      (reval_law hP hK (by omega) (by omega) hrs (by omega) hcap (HKR.out W hk)).mono fun e W' ⟨m, he, hm, hk2⟩ => ⟨m, he, hm, hk.trans hk2⟩
    have HWY : Hid (∀ W, Keeps (fun _ => False) W0 W → Calls Try.prog 7 #[.int .i64 d0, .int .i64 d1, .slice ao n cap, .int .i64 a, .int .i64 b] W fun e W' => ∃ ok v, e = .returned (.tuple #[v, .bool ok]) ∧ Hid (Keeps (fun _ => False) W W') ∧ Hid (ok = true ↔ DerAt P K rs a b) ∧ Hid (ok = false → ∃ so sc, v = .slice so 0 sc) ∧
        Hid (ok = true → d0 = P ∧ d1 = K ∧ ∃ out, Told P K rs a b out ∧ TailRow W' 34 4 v out.length (spCells out))) := fun W hk =>
      (why_law hP hK hs0 hs1 (HKR.out W hk) hrs hcap hs2 ha hb).mono fun e W' ⟨ok, v, he, h1, h2, h3, h4⟩ => ⟨ok, v, he, h1, h2, h3, h4⟩
    have hkr0 := Keeps.refl (fun _ => False) W0
    obtain ⟨s0, s1, s2, s3⟩ := HKS.out W0 hkr0
    have HW0 := Lib.hid hW0
    clear hk0 hR hP hK hS0 hW0
    go_enter Try.func3, Try.ntmps3
    go_upto_region 1 with fail
    rw [← HW0.out]
    clear HW0
    go_wp2_with fail
    refine HS.out.mono ?_
    rintro e w' ⟨rfl, rfl⟩
    clear HS
    go_wp2_with fail
    refine (HEV.out _ hkr0).mono ?_
    rintro e wA ⟨mb, rfl, hm, hkA⟩
    clear HEV hkr0 s0 s1 s2 s3
    obtain ⟨s0, s1, s2, s3⟩ := HKS.out wA hkA.out
    go_wp2_with fail
    refine (HWY.out _ hkA.out).mono ?_
    rintro e wB ⟨ok, v, rfl, hkB, hiff, hno, hyes⟩
    clear HWY s0 s1 s2 s3
    have hkB0 : Keeps (fun _ => False) W0 wB := hkA.out.trans hkB.out
    have HKB0 := Lib.hid hkB0
    clear hkB0
    obtain ⟨ao1, cap1, rb, In, hM, hder⟩ := hm.out
    have HHAS : Hid (Calls Try.prog 8 #[.pointer (some ⟨mb, 0, none⟩), .int .i64 a, .int .i64 b] wB fun e W' => e = .returned (.bool ok) ∧ wB = W') := by
      refine (rhas_spec (hM.keeps hkB.out) a b).mono ?_
      rintro e W' ⟨rfl, h⟩
      refine ⟨?_, h⟩
      have h1 := hder a b
      rw [← hiff.out] at h1
      rw [show hasB (P * K) P In a b = ok from Bool.eq_iff_iff.2 h1]
    clear hm hM hder hiff hkA hkB
    obtain ⟨s0, s1, s2, s3⟩ := HKS.out wB HKB0.out
    cases ok with
    | false =>
      obtain ⟨so, sc, rfl⟩ := hno.out rfl
      clear hno hyes
      go_wp2_with fail
      refine HHAS.out.mono ?_
      rintro e w2 ⟨rfl, rfl⟩
      clear HHAS
      go_wp2_with fail
      refine (HLV.out _ HKB0.out).mono ?_
      rintro e w3 ⟨rfl, hk3⟩
      have HB := Lib.hid (HKB.out _ hk3)
      clear hk3 HLV HKB HKB0 HKS s0 s1 s2 s3
      go_wp2_with fail
      go_ret
      exact ⟨rfl, HB.out⟩
    | true =>
      obtain ⟨rfl, rfl, out, htold, htr⟩ := hyes.out rfl
      clear hno hyes
      obtain ⟨so, sc, rfl, hle, hmx, hst⟩ := StRow.of_tail htr
      have hpos := htold.pos
      obtain ⟨q, hq⟩ : ∃ q, out.length = q + 1 := ⟨out.length - 1, by omega⟩
      obtain ⟨g, o, rfl, hg, hcells⟩ := hst hpos
      have hlen := htold.len
      have HT := Lib.hid htold
      have HTR := Lib.hid hst
      rw [hq] at hle hlen
      rw [show out.length = q + 1 from hq]
      go_wp2_with fail
      refine HHAS.out.mono ?_
      rintro e w2 ⟨rfl, rfl⟩
      clear HHAS htr htold hst hpos hcells
      obtain ⟨sl, hsl⟩ : ∃ s, out[q]? = some s := ⟨_, List.getElem?_eq_getElem (by omega)⟩
      have HLAST : Hid (sl.role = a ∧ sl.who = b) := HT.out.last sl (by rw [hq]; exact hsl)
      have HS10 : Hid (∀ W, Keeps (fun _ => False) wB W → (W.cell? ⟨w.heap.size, 0, none⟩ = some (.int .i64 P) ∧ W.cell? ⟨w.heap.size, 1, none⟩ = some (.int .i64 K) ∧ W.cell? ⟨w.heap.size + 1, 0, none⟩ = some (.int .i64 a) ∧ W.cell? ⟨w.heap.size + 1, 1, none⟩ = some (.int .i64 b) ∧ W.cell? ⟨g, o + q * 4 + 1, none⟩ = some (.int .i64 a) ∧ W.cell? ⟨g, o + q * 4 + 2, none⟩ = some (.int .i64 b))) := fun W hk => by
        obtain ⟨g', o', he, _, hc⟩ := (HTR.out.keeps hk) (by omega)
        cases he
        obtain ⟨_, e1, e2, _⟩ := hc q sl hsl
        obtain ⟨z0, z1, z2, z3⟩ := HKS.out W (HKB0.out.trans hk)
        exact ⟨z0, z1, z2, z3, by rw [e1, HLAST.out.1], by rw [e2, HLAST.out.2]⟩
      have HCHK : Hid (∀ W, Keeps (fun _ => False) wB W → Calls Try.prog 9 #[.int .i64 P, .int .i64 K, .slice ao n cap, .slice (some ⟨g, o, none⟩) (q + 1) sc] W fun e W' => e = .returned (.bool true) ∧ Keeps (fun _ => False) wB W') := fun W hk => by
        refine (check9_spec (HKR.out W (HKB0.out.trans hk)) hrs hcap (HTR.out.keeps hk) hq hle hlen (by omega) (by omega) HT.out.good).mono ?_
        rintro e W' ⟨rfl, hb⟩
        exact ⟨rfl, hk.trans (Keeps.of_below hb (Nat.le_refl _))⟩
      have hwq : IntKind.i64.wrap ((q : Nat) : Int) = ((q : Nat) : Int) := IntWalk.i64_in _ (by omega)
      have hqI : (q : Int) < (q : Int) + 1 := by omega
      have hq0 : ((q : Int) + 1 == 0) = false := beq_eq_false_iff_ne.2 (by omega)
      have H10 := HS10.out wB.drew ((Keeps.refl _ _).drew)
      go_upto_region 10 with fail
      clear s0 s1 s2 s3
      refine wp_region_noPanic ?_
      refine wp_region_held_drew (S := fun W => (W.cell? ⟨w.heap.size, 0, none⟩ = some (.int .i64 P) ∧ W.cell? ⟨w.heap.size, 1, none⟩ = some (.int .i64 K) ∧ W.cell? ⟨w.heap.size + 1, 0, none⟩ = some (.int .i64 a) ∧ W.cell? ⟨w.heap.size + 1, 1, none⟩ = some (.int .i64 b) ∧ W.cell? ⟨g, o + q * 4 + 1, none⟩ = some (.int .i64 a) ∧ W.cell? ⟨g, o + q * 4 + 2, none⟩ = some (.int .i64 b))) (by kernel_rfl) H10 (fun hHeld => ?_)
      refine wpAnyH_take_at (i := 0) (v := ?v0) rfl (by kernel_rfl) (by kernel_rfl) (by kernel_rfl) (fun _ _ _ h => h) (Or.inl ⟨by rfl, ?y0⟩) hHeld ?r0
      case y0 => (intro w hSw; (try dsimp only at hSw); go_simp; first | done | with_reducible rfl)
      (try simp only [Act.put, List.setIfInBounds_toArray, List.set_cons_zero, List.set_cons_succ])
      refine wpAnyH_take_at (i := 1) (v := ?v1) rfl (by kernel_rfl) (by kernel_rfl) (by kernel_rfl) (fun _ _ _ h => h) (Or.inl ⟨by rfl, ?y1⟩) hHeld ?r1
      case y1 => (intro w hSw; (try dsimp only at hSw); go_simp; first | done | with_reducible rfl)
      (try simp only [Act.put, List.setIfInBounds_toArray, List.set_cons_zero, List.set_cons_succ])
      refine wpAnyH_take_at (i := 2) (v := ?v2) rfl (by kernel_rfl) (by kernel_rfl) (by kernel_rfl) (fun _ _ _ h => h) (Or.inl ⟨by rfl, ?y2⟩) hHeld ?r2
      case y2 => (intro w hSw; (try dsimp only at hSw); go_simp; first | done | with_reducible rfl)
      (try simp only [Act.put, List.setIfInBounds_toArray, List.set_cons_zero, List.set_cons_succ])
      refine wpAnyH_take_at (i := 3) (v := ?v3) rfl (by kernel_rfl) (by kernel_rfl) (by kernel_rfl) (fun _ _ _ h => h) (Or.inl ⟨by rfl, ?y3⟩) hHeld ?r3
      case y3 => (intro w hSw; (try dsimp only at hSw); go_simp; first | done | with_reducible rfl)
      (try simp only [Act.put, List.setIfInBounds_toArray, List.set_cons_zero, List.set_cons_succ])
      refine wpAnyH_take_at (i := 4) (v := ?v4) rfl (by kernel_rfl) (by kernel_rfl) (by kernel_rfl) (fun _ _ _ h => h) (Or.inl ⟨by rfl, ?y4⟩) hHeld ?r4
      case y4 => (intro w hSw; (try dsimp only at hSw); go_simp; first | done | with_reducible rfl)
      (try simp only [Act.put, List.setIfInBounds_toArray, List.set_cons_zero, List.set_cons_succ])
      refine wpAnyH_take_at (i := 5) (v := ?v5) rfl (by kernel_rfl) (by kernel_rfl) (by kernel_rfl) (fun _ _ _ h => h) (Or.inl ⟨by rfl, ?y5⟩) hHeld ?r5
      case y5 => (intro w hSw; (try dsimp only at hSw); go_simp; first | done | with_reducible rfl)
      (try simp only [Act.put, List.setIfInBounds_toArray, List.set_cons_zero, List.set_cons_succ])
      refine wpAnyH_take_at (i := 6) (v := ?v6) rfl (by kernel_rfl) (by kernel_rfl) (by kernel_rfl) (fun _ _ _ h => h) (Or.inl ⟨by rfl, ?y6⟩) hHeld ?r6
      case y6 => (intro w hSw; (try dsimp only at hSw); go_simp; first | done | with_reducible rfl)
      (try simp only [Act.put, List.setIfInBounds_toArray, List.set_cons_zero, List.set_cons_succ])
      refine wpAnyH_take_at (i := 7) (v := ?v7) rfl (by kernel_rfl) (by kernel_rfl) (by kernel_rfl) (fun _ _ _ h => h) (Or.inl ⟨by rfl, ?y7⟩) hHeld ?r7
      case y7 => (intro w hSw; (try dsimp only at hSw); go_simp; first | done | with_reducible rfl)
      (try simp only [Act.put, List.setIfInBounds_toArray, List.set_cons_zero, List.set_cons_succ])
      refine wpAnyH_take_at (i := 8) (v := ?v8) rfl (by kernel_rfl) (by kernel_rfl) (by kernel_rfl) (fun _ _ _ h => h) (Or.inl ⟨by rfl, ?y8⟩) hHeld ?r8
      case y8 => (intro w hSw; (try dsimp only at hSw); go_simp; first | done | with_reducible rfl)
      (try simp only [Act.put, List.setIfInBounds_toArray, List.set_cons_zero, List.set_cons_succ])
      refine wpAnyH_one (i := 9) (by kernel_rfl) rfl (fun KK hK => ?_)
      go_simp
      refine (HCHK.out _ ((Keeps.refl _ _).drew)).mono ?_
      rintro e wC ⟨rfl, hkC⟩
      go_simp
      have HKC := Lib.hid hkC
      have h10 := HS10.out _ hkC
      clear hkC
      refine hK.out _ _ ?s9 (fun hHeld => ?_)
      case s9 => exact h10
      clear hK KK
      (try simp only [Act.put, List.setIfInBounds_toArray, List.set_cons_zero, List.set_cons_succ])
      refine wpAnyH_take_at (i := 10) (v := ?v10) rfl (by kernel_rfl) (by kernel_rfl) (by kernel_rfl) (fun _ _ _ h => h) (Or.inl ⟨by rfl, ?y10⟩) hHeld ?r10
      case y10 => (intro w hSw; (try dsimp only at hSw); go_simp; first | done | with_reducible rfl)
      (try simp only [Act.put, List.setIfInBounds_toArray, List.set_cons_zero, List.set_cons_succ])
      refine wpAnyH_take_at (i := 11) (v := ?v11) rfl (by kernel_rfl) (by kernel_rfl) (by kernel_rfl) (fun _ _ _ h => h) (Or.inl ⟨by rfl, ?y11⟩) hHeld ?r11
      case y11 => (intro w hSw; (try dsimp only at hSw); go_simp; first | done | with_reducible rfl)
      (try simp only [Act.put, List.setIfInBounds_toArray, List.set_cons_zero, List.set_cons_succ])
      refine wpAnyH_take_at (i := 12) (v := ?v12) rfl (by kernel_rfl) (by kernel_rfl) (by kernel_rfl) (fun _ _ _ h => h) (Or.inl ⟨by rfl, ?y12⟩) hHeld ?r12
      case y12 => (intro w hSw; (try dsimp only at hSw); go_simp; first | done | with_reducible rfl)
      (try simp only [Act.put, List.setIfInBounds_toArray, List.set_cons_zero, List.set_cons_succ])
      refine wpAnyH_take_at (i := 13) (v := ?v13) rfl (by kernel_rfl) (by kernel_rfl) (by kernel_rfl) (fun _ _ _ h => h) (Or.inl ⟨by rfl, ?y13⟩) hHeld ?r13
      case y13 => (intro w hSw; (try dsimp only at hSw); go_simp; first | done | with_reducible rfl)
      (try simp only [Act.put, List.setIfInBounds_toArray, List.set_cons_zero, List.set_cons_succ])
      refine wpAnyH_take_at (i := 14) (v := ?v14) rfl (by kernel_rfl) (by kernel_rfl) (by kernel_rfl) (fun _ _ _ h => h) (Or.inl ⟨by rfl, ?y14⟩) hHeld ?r14
      case y14 => (intro w hSw; (try dsimp only at hSw); go_simp; first | done | with_reducible rfl)
      (try simp only [Act.put, List.setIfInBounds_toArray, List.set_cons_zero, List.set_cons_succ])
      refine wpAnyH_take_at (i := 15) (v := ?v15) rfl (by kernel_rfl) (by kernel_rfl) (by kernel_rfl) (fun _ _ _ h => h) (Or.inl ⟨by rfl, ?y15⟩) hHeld ?r15
      case y15 => (intro w hSw; (try dsimp only at hSw); go_simp; first | done | with_reducible rfl)
      (try simp only [Act.put, List.setIfInBounds_toArray, List.set_cons_zero, List.set_cons_succ])
      refine wpAnyH_take_at (i := 16) (v := ?v16) rfl (by kernel_rfl) (by kernel_rfl) (by kernel_rfl) (fun _ _ _ h => h) (Or.inl ⟨by rfl, ?y16⟩) hHeld ?r16
      case y16 => (intro w hSw; (try dsimp only at hSw); go_simp; first | done | with_reducible rfl)
      (try simp only [Act.put, List.setIfInBounds_toArray, List.set_cons_zero, List.set_cons_succ])
      refine wpAnyH_take_at (i := 17) (v := ?v17) rfl (by kernel_rfl) (by kernel_rfl) (by kernel_rfl) (fun _ _ _ h => h) (Or.inl ⟨by rfl, ?y17⟩) hHeld ?r17
      case y17 => (intro w hSw; (try dsimp only at hSw); go_simp; first | done | with_reducible rfl)
      (try simp only [Act.put, List.setIfInBounds_toArray, List.set_cons_zero, List.set_cons_succ])
      refine wpAnyH_take_at (i := 18) (v := ?v18) rfl (by kernel_rfl) (by kernel_rfl) (by kernel_rfl) (fun _ _ _ h => h) (Or.inl ⟨by rfl, ?y18⟩) hHeld ?r18
      case y18 => (intro w hSw; (try dsimp only at hSw); go_simp; first | done | with_reducible rfl)
      (try simp only [Act.put, List.setIfInBounds_toArray, List.set_cons_zero, List.set_cons_succ])
      refine wpAnyH_take_at (i := 19) (v := ?v19) rfl (by kernel_rfl) (by kernel_rfl) (by kernel_rfl) (fun _ _ _ h => h) (Or.inl ⟨by rfl, ?y19⟩) hHeld ?r19
      case y19 => (intro w hSw; (try dsimp only at hSw); go_simp; first | done | with_reducible rfl)
      (try simp only [Act.put, List.setIfInBounds_toArray, List.set_cons_zero, List.set_cons_succ])
      refine wpAnyH_take_at (i := 20) (v := ?v20) rfl (by kernel_rfl) (by kernel_rfl) (by kernel_rfl) (fun _ _ _ h => h) (Or.inl ⟨by rfl, ?y20⟩) hHeld ?r20
      case y20 => (intro w hSw; (try dsimp only at hSw); go_simp; first | done | with_reducible rfl)
      (try simp only [Act.put, List.setIfInBounds_toArray, List.set_cons_zero, List.set_cons_succ])
      refine wpAnyH_take_at (i := 21) (v := ?v21) rfl (by kernel_rfl) (by kernel_rfl) (by kernel_rfl) (fun _ _ _ h => h) (Or.inl ⟨by rfl, ?y21⟩) hHeld ?r21
      case y21 => (intro w hSw; (try dsimp only at hSw); go_simp; first | done | with_reducible rfl)
      (try simp only [Act.put, List.setIfInBounds_toArray, List.set_cons_zero, List.set_cons_succ])
      refine wpAnyH_take_at (i := 22) (v := ?v22) rfl (by kernel_rfl) (by kernel_rfl) (by kernel_rfl) (fun _ _ _ h => h) (Or.inl ⟨by rfl, ?y22⟩) hHeld ?r22
      case y22 => (intro w hSw; (try dsimp only at hSw); go_simp; first | done | with_reducible rfl)
      (try simp only [Act.put, List.setIfInBounds_toArray, List.set_cons_zero, List.set_cons_succ])
      refine wpAnyH_take_at (i := 23) (v := ?v23) rfl (by kernel_rfl) (by kernel_rfl) (by kernel_rfl) (fun _ _ _ h => h) (Or.inl ⟨by rfl, ?y23⟩) hHeld ?r23
      case y23 => (intro w hSw; (try dsimp only at hSw); go_simp; first | done | with_reducible rfl)
      (try simp only [Act.put, List.setIfInBounds_toArray, List.set_cons_zero, List.set_cons_succ])
      refine wpAnyH_take_at (i := 24) (v := ?v24) rfl (by kernel_rfl) (by kernel_rfl) (by kernel_rfl) (fun _ _ _ h => h) (Or.inl ⟨by rfl, ?y24⟩) hHeld ?r24
      case y24 => (intro w hSw; (try dsimp only at hSw); go_simp; first | done | with_reducible rfl)
      (try simp only [Act.put, List.setIfInBounds_toArray, List.set_cons_zero, List.set_cons_succ])
      refine wpAnyH_take_at (i := 25) (v := ?v25) rfl (by kernel_rfl) (by kernel_rfl) (by kernel_rfl) (fun _ _ _ h => h) (Or.inl ⟨by rfl, ?y25⟩) hHeld ?r25
      case y25 => (intro w hSw; (try dsimp only at hSw); go_simp; first | done | with_reducible rfl)
      (try simp only [Act.put, List.setIfInBounds_toArray, List.set_cons_zero, List.set_cons_succ])
      refine wpAnyH_take_at (i := 26) (v := ?v26) rfl (by kernel_rfl) (by kernel_rfl) (by kernel_rfl) (fun _ _ _ h => h) (Or.inl ⟨by rfl, ?y26⟩) hHeld ?r26
      case y26 => (intro w hSw; (try dsimp only at hSw); go_simp; first | done | with_reducible rfl)
      (try simp only [Act.put, List.setIfInBounds_toArray, List.set_cons_zero, List.set_cons_succ])
      refine wpAnyH_take_at (i := 27) (v := ?v27) rfl (by kernel_rfl) (by kernel_rfl) (by kernel_rfl) (fun _ _ _ h => h) (Or.inl ⟨by rfl, ?y27⟩) hHeld ?r27
      case y27 => (intro w hSw; (try dsimp only at hSw); go_simp; first | done | with_reducible rfl)
      (try simp only [Act.put, List.setIfInBounds_toArray, List.set_cons_zero, List.set_cons_succ])
      refine wpAnyH_take_at (i := 28) (v := ?v28) rfl (by kernel_rfl) (by kernel_rfl) (by kernel_rfl) (fun _ _ _ h => h) (Or.inl ⟨by rfl, ?y28⟩) hHeld ?r28
      case y28 => (intro w hSw; (try dsimp only at hSw); go_simp; first | done | with_reducible rfl)
      (try simp only [Act.put, List.setIfInBounds_toArray, List.set_cons_zero, List.set_cons_succ])
      refine wpAnyH_take_at (i := 29) (v := ?v29) rfl (by kernel_rfl) (by kernel_rfl) (by kernel_rfl) (fun _ _ _ h => h) (Or.inl ⟨by rfl, ?y29⟩) hHeld ?r29
      case y29 => (intro w hSw; (try dsimp only at hSw); go_simp; first | done | with_reducible rfl)
      (try simp only [Act.put, List.setIfInBounds_toArray, List.set_cons_zero, List.set_cons_succ])
      refine wpAnyH_take_at (i := 30) (v := ?v30) rfl (by kernel_rfl) (by kernel_rfl) (by kernel_rfl) (fun _ _ _ h => h) (Or.inl ⟨by rfl, ?y30⟩) hHeld ?r30
      case y30 => (intro w hSw; (try dsimp only at hSw); go_simp; first | done | with_reducible rfl)
      (try simp only [Act.put, List.setIfInBounds_toArray, List.set_cons_zero, List.set_cons_succ])
      refine wpAnyH_take_at (i := 31) (v := ?v31) rfl (by kernel_rfl) (by kernel_rfl) (by kernel_rfl) (fun _ _ _ h => h) (Or.inl ⟨by rfl, ?y31⟩) hHeld ?r31
      case y31 => (intro w hSw; (try dsimp only at hSw); go_simp; first | done | with_reducible rfl)
      (try simp only [Act.put, List.setIfInBounds_toArray, List.set_cons_zero, List.set_cons_succ])
      refine wpAnyH_take_at (i := 32) (v := ?v32) rfl (by kernel_rfl) (by kernel_rfl) (by kernel_rfl) (fun _ _ _ h => h) (Or.inl ⟨by rfl, ?y32⟩) hHeld ?r32
      case y32 => (intro w hSw; (try dsimp only at hSw); go_simp; first | done | with_reducible rfl)
      (try simp only [Act.put, List.setIfInBounds_toArray, List.set_cons_zero, List.set_cons_succ])
      refine wpAnyH_take_at (i := 33) (v := ?v33) rfl (by kernel_rfl) (by kernel_rfl) (by kernel_rfl) (fun _ _ _ h => h) (Or.inl ⟨by rfl, ?y33⟩) hHeld ?r33
      case y33 => (intro w hSw; (try dsimp only at hSw); go_simp; first | done | with_reducible rfl)
      (try simp only [Act.put, List.setIfInBounds_toArray, List.set_cons_zero, List.set_cons_succ])
      refine wpAnyH_done (by kernel_rfl) ?_ _
      refine NoPanic.normal ?_
      clear hHeld HCHK H10 HS10 h10
      have hqs : (q : Int) ≤ (sc : Int) := by omega
      go_wp2_with fail
      go_loopg [100] q (fun g t wy => ∃ (j : Nat), j ≤ q ∧ g = q - j ∧ t = .int .i64 j ∧ Hid (Keeps (fun _ => False) wB wy))
      case atStart => exact ⟨0, Nat.zero_le _, rfl, rfl, HKC.out⟩
      case round =>
        clear HKC
        obtain ⟨j, hj, rfl, rfl, HKJ⟩ := hrel
        by_cases hlt : j < q
        · have hjI : (j : Int) < (q : Int) := by omega
          have hjw : IntKind.i64.wrap ((j : Int) + 1) = (j : Int) + 1 := IntWalk.i64_in _ (by omega)
          have hjJ : (j : Int) + 1 ≤ (q : Int) + 1 := by omega
          obtain ⟨s, hs⟩ : ∃ s, out[j]? = some s := ⟨_, List.getElem?_eq_getElem (by omega)⟩
          have hcl := fun W hk => (HTR.out.keeps (w' := W) hk) (by omega)
          obtain ⟨g', o', he, _, hc⟩ := hcl _ HKJ.out
          cases he
          obtain ⟨c0, c1, c2, c3⟩ := hc j s hs
          have HSJ := Lib.hid hs
          have HND := Lib.hid (HT.out.need j s (by omega) hs)
          obtain ⟨rule, role, who, mid⟩ := s
          simp only [] at c0 c1 c2 c3 HND
          clear hc hs hcl
          have HKX : Hid (Keeps (fun _ => False) wB (wr.alloc (.cells #[.int .i64 rule, .int .i64 role, .int .i64 who, .int .i64 mid] 34))) := HKJ.out.trans ((Keeps.refl _ _).alloc _)
          have hbx : (wr.alloc (.cells #[.int .i64 rule, .int .i64 role, .int .i64 who, .int .i64 mid] 34)).heap[wr.heap.size]? = some (.cells #[.int .i64 rule, .int .i64 role, .int .i64 who, .int .i64 mid] 34) := (MapKept.heap_alloc wr _).1
          have HBX := Lib.hid hbx
          clear hbx
          go_upto_region 17 with fail
          obtain ⟨wX, hX⟩ : ∃ wX, (wr.alloc (.cells #[.int .i64 rule, .int .i64 role, .int .i64 who, .int .i64 mid] 34)) = wX := ⟨_, rfl⟩
          simp only [hX] at HKX HBX ⊢
          clear hX c0 c1 c2 c3 HKJ
          go_loopg [13, 110] (q - j) (fun g' s' t wy => ∃ (i : Nat) (fl : Bool), i ≤ q - j ∧ g' = q - j - i ∧ s' = .bool fl ∧ t = .int .i64 i ∧ Hid (Keeps (fun _ => False) wX wy) ∧ Hid (∀ (i' : Nat) (x : Sp), i' < i → out[j + 1 + i']? = some x → (role, who) ∈ (needsL P K rs x).1 → fl = true))
          case atStart => exact ⟨0, false, Nat.zero_le _, rfl, rfl, rfl, Keeps.refl _ _, fun _ _ h => absurd h (Nat.not_lt_zero _)⟩
          case round =>
            obtain ⟨i, fl, hi, rfl, rfl, rfl, HKI, HFL⟩ := hrel
            have HKW : Hid (Keeps (fun _ => False) wB wr) := HKX.out.trans HKI.out
            by_cases hlti : i < q - j
            · have hiI : (i : Int) < ((q - j : Nat) : Int) := by omega
              obtain ⟨x, hx⟩ : ∃ x, out[j + 1 + i]? = some x := ⟨_, List.getElem?_eq_getElem (by omega)⟩
              obtain ⟨g'', o'', he, _, hc⟩ := (HTR.out.keeps HKW.out) (by omega)
              cases he
              obtain ⟨c0, c1, c2, c3⟩ := hc _ x hx
              rw [show o + (j + 1 + i) * 4 = o + (j + 1) * 4 + i * 4 from by omega] at c0 c1 c2 c3
              have hbx := (HKI.out.block _ (lt_of_heap HBX.out) (fun x => x)).trans HBX.out
              have b1 := cell_of_heap hbx 1
              have b2 := cell_of_heap hbx 2
              simp only [List.getElem?_toArray, List.getElem?_cons_zero, List.getElem?_cons_succ] at b1 b2
              have lbx := lt_of_heap hbx
              obtain ⟨_, s1, _, _⟩ := HKS.out wr (HKB0.out.trans HKW.out)
              have ls1 := lt_of_cell s1
              have HNEED : Hid (∀ W, Keeps (fun _ => False) wB W → Calls Try.prog 10 #[.int .i64 K, .slice ao n cap, .agg #[.int .i64 x.rule, .int .i64 x.role, .int .i64 x.who, .int .i64 x.mid], .int .i64 role, .int .i64 who] W (fun e W' => ∃ v, e = .returned (.bool v) ∧ Hid ((role, who) ∈ (needsL P K rs x).1 → v = true) ∧ Keeps (fun _ => False) W W')) := fun W hk =>
                needed9_spec (HKR.out W (HKB0.out.trans hk)) hrs hcap (HT.out.good _ x hx) role who
              have HSTEP : Hid (∀ v : Bool, ((role, who) ∈ (needsL P K rs x).1 → v = true) → ∀ (i' : Nat) (x : Sp), i' < i + 1 → out[j + 1 + i']? = some x → (role, who) ∈ (needsL P K rs x).1 → (fl || v) = true) := fun v hv i' x' hi' hx' hm => by
                rcases Nat.lt_or_ge i' i with h | h
                · rw [HFL.out i' x' h hx' hm]; rfl
                · obtain rfl : i' = i := by omega
                  rw [hx] at hx'; cases hx'
                  rw [hv hm, Bool.or_true]
              obtain ⟨xr, xo, xw, xm⟩ := x
              simp only [] at c0 c1 c2 c3 HNEED
              clear hc hx hbx HFL
              cases fl with
              | true =>
                go_wp2_with fail
                go_roundg (q - j - (i + 1))
                case measure => omega
                case rel => exact ⟨i + 1, true, by omega, rfl, rfl, by go_num, HKI.out.trans ((Keeps.refl _ _).alloc _), fun _ _ _ _ _ => rfl⟩
              | false =>
                have HC := Lib.hid (HNEED.out _ (HKW.out.trans ((Keeps.refl _ _).alloc (.cells #[.int .i64 xr, .int .i64 xo, .int .i64 xw, .int .i64 xm] 34))))
                clear HNEED
                go_wp2_with (go_at_call 10; refine HC.out.mono ?_; rintro e wN ⟨v, rfl, hvv, hkN⟩)
                go_roundg (q - j - (i + 1))
                case measure => omega
                case rel => exact ⟨i + 1, v, by omega, rfl, rfl, by go_num, (HKI.out.trans ((Keeps.refl _ _).alloc _)).trans hkN, HSTEP.out v hvv.out⟩
            · have hiE : i = q - j := by omega
              have hiI : ¬ (i : Int) < ((q - j : Nat) : Int) := by omega
              have hfl : fl = true := by
                obtain ⟨t', s', h1, h2, h3⟩ := HND.out
                have ht' : t' < out.length := by
                  rcases Nat.lt_or_ge t' out.length with h | h
                  · exact h
                  · rw [List.getElem?_eq_none h] at h2; cases h2
                refine HFL.out (t' - (j + 1)) s' (by omega) ?_ h3
                rw [show j + 1 + (t' - (j + 1)) = t' from by omega]
                exact h2
              subst hfl
              clear HFL
              go_wp2_with fail
              go_roundg (q - (j + 1))
              case measure => omega
              case rel => exact ⟨j + 1, by omega, rfl, by go_num, HKW.out⟩
        · have hjE : j = q := by omega
          have hjI : ¬ (j : Int) < (q : Int) := by omega
          have HL := Lib.hid (HLV.out _ (HKB0.out.trans HKJ.out))
          clear HLV
          go_wp2_with fail
          refine HL.out.mono ?_
          rintro e w3 ⟨rfl, hk3⟩
          have HB := Lib.hid (HKB.out _ hk3)
          clear hk3 HL HKB
          go_wp2_with fail
          go_ret
          exact ⟨rfl, HB.out⟩
  · rw [decide_eq_false hsm] at HS
    obtain ⟨s0, s1, _⟩ := hS0
    have HW0 := Lib.hid hW0
    have hkr0 := Keeps.refl (fun _ => False) W0
    have HL := Lib.hid (HLV.out _ hkr0)
    clear hR hsm hW0 hk0 hkr0 HLV HKS
    go_enter Try.func3, Try.ntmps3
    go_upto_region 1 with fail
    rw [← HW0.out]
    clear HW0
    go_wp2_with fail
    refine HS.out.mono ?_
    rintro e w' ⟨rfl, rfl⟩
    clear HS
    go_wp2_with fail
    refine HL.out.mono ?_
    rintro e w2 ⟨rfl, hk2⟩
    have HB := Lib.hid (HKB.out _ hk2)
    clear hk2 HL HKB
    go_wp2_with fail
    go_ret
    exact ⟨rfl, HB.out⟩
theorem pair_of_fits {c : Array Value} (hs : c.size = 2) (hf : Fits [.int .i64, .int .i64] 0 c.toList) : ∃ x y : Int, c = #[.int .i64 x, .int .i64 y] ∧ I64 x ∧ I64 y := by
  obtain ⟨l⟩ := c
  match l, hs with
  | [a, b], _ =>
    obtain ⟨u, hu, x, rfl, hx⟩ := hf 0 _ rfl
    obtain ⟨v, hv, y, rfl, hy⟩ := hf 1 _ rfl
    simp at hu hv
    subst hu
    subst hv
    exact ⟨x, y, rfl, bounds_i64 hx, bounds_i64 hy⟩
theorem proofTells_core (w : World) (c : Array Value) (hs : c.size = 2) (hf : Fits [.int .i64, .int .i64] 0 c.toList) (ao : Option Addr) (n cap : Nat) (G : Nat → Nat → Value) (R : IsRow w [.int .i64, .int .i64, .int .i64, .int .i64, .int .i64, .int .i64] ao n cap G)
    (c2 : Array Value) (hs2 : c2.size = 2) (hf2 : Fits [.int .i64, .int .i64] 0 c2.toList) :
    Calls Try.prog 3 #[.agg c, .slice ao n cap, .agg c2] w fun e w' => e = .returned (.bool true) ∧ Below w.heap.size w w' := by
  obtain ⟨x, y, rfl⟩ := dims_of_fits hs hf
  obtain ⟨a, b, rfl, ha, hb⟩ := pair_of_fits hs2 hf2
  obtain ⟨rs, hrs, hR, _⟩ := R.rules
  exact proofTells_any w x y ao n cap rs hrs R.le hR a b ha hb
end Go.Proofs.Ytoiojkkbhbbjfaa
