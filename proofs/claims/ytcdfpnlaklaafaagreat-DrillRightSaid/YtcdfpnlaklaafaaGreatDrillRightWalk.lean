/-
 The walk of DrillRight: what any seed draws may be; drawn again it is the same; a drill that there isn't draws nothing.
-/
import Derived.Test.YtcdfpnlaklaafaaGreatDrillRightNod
set_option linter.unusedVariables false
set_option linter.unusedSimpArgs false
set_option linter.unnecessarySimpa false
namespace Go.Proofs.YtcdfpnlaklaafaaGreat
open Go.ChangeShapes Go.WideShapes Go.ChangeAt Go.RowKit Go.Deep
set_option maxRecDepth 100000
set_option maxHeartbeats 12800000
theorem drillRight_core (W : World) (X : Int) (hX0 : 0 ≤ X) (hX1 : X ≤ 18446744073709551615) (s : Shp) :
  Calls Tryz.prog 4 #[.int .u64 X, ShpV s] W fun e W' => e = .returned (.bool true) ∧ Hid (Keeps (fun _ => False) W W') := by
 have hXX : U64 X := ⟨hX0, hX1⟩
 have HDF : Hid (∀ W : World, Calls Tryz.prog 7 #[ShpV s] W fun e W' => e = .returned (.bool (fitsD s)) ∧ Hid (Keeps (fun _ => False) W W')) := fun W => dfits_spec s
 have HLV : Hid (∀ W : World, Calls Tryz.prog 21 #[] W fun e w' => e = .returned (.bool true) ∧ Hid (Keeps (fun _ => False) W w')) := fun W => (lives34_any W).mono fun e w' h => ⟨h.1, Keeps.of_below h.2 (Nat.le_refl _)⟩
 have HZN1 : Hid (∀ W : World, Calls Tryz.prog 8 #[.pointer none] W fun e W' => e = .returned (.int .u64 0) ∧ Hid (Keeps (fun _ => False) W W')) := fun W => dnext_nil.mono fun e w' h => ⟨h.1, by rw [← h.2]; exact Keeps.refl _ _⟩
 have HZN2 : Hid (∀ W : World, Calls Tryz.prog 10 #[.pointer none, .int .i64 5] W fun e W' => e = .returned (.int .i64 0) ∧ Hid (Keeps (fun _ => False) W W')) := fun W => dbelow_nil.mono fun e w' h => ⟨h.1, by rw [← h.2]; exact Keeps.refl _ _⟩
 have HZN3 := Lib.hid (fun W : World => drole_nil (W := W) s)
 have HZN4 := Lib.hid (fun W : World => dstmt_nil (W := W) s)
 have HZN5 := Lib.hid (fun W : World => dask_nil (W := W) s)
 have HZN6 := Lib.hid (fun W : World => dpolicy_nil (W := W) s)
 have HNEW : Hid (∀ (W w : World) (L0 SB UB : Nat) (S U : Obj) (p : Pol) bs vs, Nod W w L0 SB UB S U X p bs vs none → Calls Tryz.prog 5 #[.int .u64 X] w fun e w' => ∃ d, e = .returned (.pointer (some ⟨d, 0, none⟩)) ∧ Hid (Nod W w' L0 SB UB S U X p bs vs (some d))) := fun W w L0 SB UB S U p bs vs h => (drillNew_any X w).mono fun e w' q => ⟨_, q.1, by rw [q.2]; exact h.new hXX⟩
 have HPOL : Hid (fitsD s = true → ∀ (W w : World) (L0 SB UB : Nat) (S U : Obj) bs vs d, Nod W w L0 SB UB S U X (polD X s).1 bs vs (some d) → Calls Tryz.prog 20 #[.pointer (some ⟨d, 0, none⟩), ShpV s] w fun e w' => ∃ o0 n0 c0 o1 n1 c1 o2 n2 c2 o3 n3 c3, e = .returned (.agg #[.slice o0 n0 c0, .slice o1 n1 c1, .slice o2 n2 c2, .slice o3 n3 c3]) ∧ Hid (Nod W w' L0 SB UB S U X (polD X s).1 bs (vs ++ [(.slice o0 n0 c0, .slice o1 n1 c1, .slice o2 n2 c2, .slice o3 n3 c3)]) none)) := fun hf W w L0 SB UB S U bs vs d h => by
  have q := dpol_spec (s := s) (h.dr d rfl).1
  unfold orD at q
  rw [if_pos hf] at q
  refine q.mono fun e w' ⟨v0, v1, v2, v3, q1, q2⟩ => ?_
  obtain ⟨o0, c0, rfl, -, -⟩ := id q2.out.2.2.1.1.1
  obtain ⟨o1, c1, rfl, -, -⟩ := id q2.out.2.2.2.1.1.1
  obtain ⟨o2, c2, rfl, -, -⟩ := id q2.out.2.2.2.2.1.1.1
  obtain ⟨lv, -, h3, -⟩ := q2.out.2.2.2.2.2
  obtain ⟨o3, c3, rfl, -, -⟩ := id h3.1.1
  exact ⟨_, _, _, _, _, _, _, _, _, _, _, _, q1, h.drawn q2.out⟩
 have HPB : Hid (fitsD s = true → PolB s (polD X s).1) := fun hf => pol_b hf
 obtain ⟨pp, hpp⟩ : ∃ q, (polD X s).1 = q := ⟨_, rfl⟩
 rw [hpp] at HPOL HPB
 clear hpp hX0 hX1 hXX
 obtain ⟨ok, hok⟩ : ∃ q, fitsD s = q := ⟨_, rfl⟩
 rw [hok] at HDF HPOL HPB
 clear hok
 obtain ⟨SB, hSB⟩ : ∃ q, W.heap.size = q := ⟨_, rfl⟩
 have hal0 := (MapKept.heap_alloc W (.cells #[.int .i64 s.prins, .int .i64 s.links, .int .i64 s.stmts, .int .i64 s.grow, .int .i64 s.shrink, .int .i64 s.asks] 24)).1
 obtain ⟨W1, hW1⟩ : ∃ q, W.alloc (.cells #[.int .i64 s.prins, .int .i64 s.links, .int .i64 s.stmts, .int .i64 s.grow, .int .i64 s.shrink, .int .i64 s.asks] 24) = q := ⟨_, rfl⟩
 have k1 : Keeps (fun _ => False) W W1 := by rw [← hW1]; exact (Keeps.refl _ _).alloc _
 rw [hW1, hSB] at hal0
 have HS0 := Lib.hid hal0
 have HK0 := Lib.hid k1
 have HN : Hid (W.heap.size ≤ SB) := by show _ ≤ _; omega
 clear k1 hal0
 unfold ShpV at *
 go_enter Tryz.func4, Tryz.ntmps4
 go_upto_region 1 with fail
 clear hW1 hSB
 obtain ⟨Sc0, Sf0, Sc1, Sf1, Sc2, Sf2, Sc3, Sf3, Sc4, Sf4, Sc5, Sf5⟩ := cf6 HS0.out
 have hal := (MapKept.heap_alloc W1 (.cells #[.int .i64 s.prins, .int .i64 s.links, .int .i64 s.stmts, .int .i64 s.grow, .int .i64 s.shrink, .int .i64 s.asks] 32)).1
 have hkE : Keeps (fun _ => False) W1 (W1.alloc (.cells #[.int .i64 s.prins, .int .i64 s.links, .int .i64 s.stmts, .int .i64 s.grow, .int .i64 s.shrink, .int .i64 s.asks] 32)) := (Keeps.refl _ _).alloc _
 obtain ⟨UB, hUB⟩ : ∃ q, W1.heap.size = q := ⟨_, rfl⟩
 rw [hUB] at hal
 have HS3 := Lib.hid (((hkE).block _ (lt_of_heap HS0.out) (fun x => x)).trans HS0.out)
 have HN2 : Hid ((W.heap.size ≤ SB) ∧ W.heap.size ≤ UB ∧ SB < UB) := ⟨HN.out, by
  have hz := HK0.out.size
  have l0 := lt_of_heap HS0.out
  refine ⟨?_, ?_⟩ <;> omega⟩
 have HK4 := Lib.hid (HK0.out.trans hkE)
 have HU5 := Lib.hid hal
 clear hkE hal HS0 HN HK0
 go_upto_region 2 with fail
 clear Sc0 Sf0 Sc1 Sf1 Sc2 Sf2 Sc3 Sf3 Sc4 Sf4 Sc5 Sf5
 clear hUB
 generalize (W1.alloc (.cells #[.int .i64 s.prins, .int .i64 s.links, .int .i64 s.stmts, .int .i64 s.grow, .int .i64 s.shrink, .int .i64 s.asks] 32)) = w1 at *
 obtain ⟨Sc0, Sf0, Sc1, Sf1, Sc2, Sf2, Sc3, Sf3, Sc4, Sf4, Sc5, Sf5⟩ := cf6 HS3.out
 obtain ⟨Uc0, Uf0, Uc1, Uf1, Uc2, Uf2, Uc3, Uf3, Uc4, Uf4, Uc5, Uf5⟩ := cf6 HU5.out
 go_wp2_with fail
 refine (HDF.out _).mono ?_
 rintro e w6 ⟨rfl, hk⟩
 have HS7 := Lib.hid (((hk.out).block _ (lt_of_heap HS3.out) (fun x => x)).trans HS3.out)
 have HU8 := Lib.hid (((hk.out).block _ (lt_of_heap HU5.out) (fun x => x)).trans HU5.out)
 have HK9 := Lib.hid (HK4.out.trans hk.out)
 clear Sc0 Sf0 Sc1 Sf1 Sc2 Sf2 Sc3 Sf3 Sc4 Sf4 Sc5 Sf5 Uc0 Uf0 Uc1 Uf1 Uc2 Uf2 Uc3 Uf3 Uc4 Uf4 Uc5 Uf5
 clear hk HS3 HU5 HK4
 clear HDF
 rcases Bool.eq_false_or_eq_true ok with rfl | rfl
 rotate_left
 ·clear HZN1 HZN2 HZN3 HZN4 HZN5 HZN6 HNEW HPOL HPB
  go_upto_region 3 with fail
  go_wp2_with fail
  refine (HLV.out _).mono ?_
  rintro e we ⟨rfl, hb⟩
  have HE := Lib.hid (HK9.out.trans hb.out)
  clear hb
  go_wp2_with fail
  go_ret
  exact ⟨rfl, HE⟩
 replace HPOL := Lib.hid (HPOL.out rfl)
 replace HPB := Lib.hid (HPB.out rfl)
 obtain ⟨L0, hL0⟩ : ∃ q, w6.heap.size = q := ⟨_, rfl⟩
 have HN0 : Hid (Nod W w6 L0 SB UB (.cells #[.int .i64 s.prins, .int .i64 s.links, .int .i64 s.stmts, .int .i64 s.grow, .int .i64 s.shrink, .int .i64 s.asks] 24) (.cells #[.int .i64 s.prins, .int .i64 s.links, .int .i64 s.stmts, .int .i64 s.grow, .int .i64 s.shrink, .int .i64 s.asks] 32) X pp [] [] none) := ⟨HK9.out, Nat.le_of_eq hL0.symm, by have := HK9.out.size; omega, by have := lt_of_heap HS7.out; omega, by have := lt_of_heap HU8.out; omega, HS7.out, HU8.out, fun b hb => (by cases hb), List.nodup_nil, fun b hb => (by cases hb), fun v hv => (by cases hv)⟩
 clear hL0
 obtain ⟨Uc0, Uf0, Uc1, Uf1, Uc2, Uf2, Uc3, Uf3, Uc4, Uf4, Uc5, Uf5⟩ := cf6 HU8.out
 go_upto_region 4 with fail
 clear Uc0 Uf0 Uc1 Uf1 Uc2 Uf2 Uc3 Uf3 Uc4 Uf4 Uc5 Uf5
 clear HS7 HU8 HK9 HN2
 go_cut [6, 7] from 9 (fun s6 s7 wx => ∃ (ba bb : Nat) (v0 v1 v2 v3 u0 u1 u2 u3 : Value), s6 = .pointer (some ⟨ba, 0, none⟩) ∧ s7 = .pointer (some ⟨bb, 0, none⟩) ∧ Hid (Fin2 W wx SB UB (.cells #[.int .i64 s.prins, .int .i64 s.links, .int .i64 s.stmts, .int .i64 s.grow, .int .i64 s.shrink, .int .i64 s.asks] 24) (.cells #[.int .i64 s.prins, .int .i64 s.links, .int .i64 s.stmts, .int .i64 s.grow, .int .i64 s.shrink, .int .i64 s.asks] 32) pp ba bb v0 v1 v2 v3 u0 u1 u2 u3))
 case first =>
  clear HPB HZN1 HZN2 HZN3 HZN4 HZN5 HZN6 HLV
  have HMK : Hid (∀ w' : World, w'.heap[UB]? = some (.cells #[.int .i64 s.prins, .int .i64 s.links, .int .i64 s.stmts, .int .i64 s.grow, .int .i64 s.shrink, .int .i64 s.asks] 32) → w'.cell? ⟨UB, 0, none⟩ = some (.int .i64 s.prins) ∧ w'.cell? ⟨UB, 1, none⟩ = some (.int .i64 s.links) ∧ w'.cell? ⟨UB, 2, none⟩ = some (.int .i64 s.stmts) ∧ w'.cell? ⟨UB, 3, none⟩ = some (.int .i64 s.grow) ∧ w'.cell? ⟨UB, 4, none⟩ = some (.int .i64 s.shrink) ∧ w'.cell? ⟨UB, 5, none⟩ = some (.int .i64 s.asks)) := fun w' h0 => ⟨by rw [cell_of_heap h0]; rfl, by rw [cell_of_heap h0]; rfl, by rw [cell_of_heap h0]; rfl, by rw [cell_of_heap h0]; rfl, by rw [cell_of_heap h0]; rfl, by rw [cell_of_heap h0]; rfl⟩
  have HND : Hid (Nod W w6.drew L0 SB UB (.cells #[.int .i64 s.prins, .int .i64 s.links, .int .i64 s.stmts, .int .i64 s.grow, .int .i64 s.shrink, .int .i64 s.asks] 24) (.cells #[.int .i64 s.prins, .int .i64 s.links, .int .i64 s.stmts, .int .i64 s.grow, .int .i64 s.shrink, .int .i64 s.asks] 32) X pp [] [] none) := by
   have hkd : Keeps (fun _ => False) w6 w6.drew := (Keeps.refl _ _).drew
   have h := HN0.out
   exact ⟨h.K.trans hkd, Nat.le_trans h.l0 hkd.size, h.lW, h.lS, h.lU, (hkd.block _ (lt_of_heap h.hS) (fun x => x)).trans h.hS, (hkd.block _ (lt_of_heap h.hU) (fun x => x)).trans h.hU, fun b hb => (by cases hb), List.nodup_nil, fun b hb => (by cases hb), fun v hv => (by cases hv)⟩
  clear HN0
  have hS0 := HMK.out w6.drew HND.out.hU
  refine wp_region_noPanic ?_
  refine wp_region_held_drew (S := (fun w' => w'.cell? ⟨UB, 0, none⟩ = some (.int .i64 s.prins) ∧ w'.cell? ⟨UB, 1, none⟩ = some (.int .i64 s.links) ∧ w'.cell? ⟨UB, 2, none⟩ = some (.int .i64 s.stmts) ∧ w'.cell? ⟨UB, 3, none⟩ = some (.int .i64 s.grow) ∧ w'.cell? ⟨UB, 4, none⟩ = some (.int .i64 s.shrink) ∧ w'.cell? ⟨UB, 5, none⟩ = some (.int .i64 s.asks))) (by kernel_rfl) hS0 (fun hHeld => ?_)
  clear hS0
  generalize w6.drew = wd at *
  refine wpAnyH_take_at (i := 0) (v := ?v0_1) rfl (by kernel_rfl) (by kernel_rfl) (by kernel_rfl) (fun _ _ _ h => h) (Or.inl ⟨by rfl, ?y0_1⟩) hHeld ?r0_1
  case y0_1 => (intro w hSw; (try dsimp only at hSw); go_simp; first | done | with_reducible rfl)
  (try simp only [Act.put, nm1, nm2, nm3])
  refine wpAnyH_take_at (i := 2) (v := ?v2_2) rfl (by kernel_rfl) (by kernel_rfl) (by kernel_rfl) (fun _ _ _ h => h) (Or.inl ⟨by rfl, ?y2_2⟩) hHeld ?r2_2
  case y2_2 => (intro w hSw; (try dsimp only at hSw); go_simp; first | done | with_reducible rfl)
  (try simp only [Act.put, nm1, nm2, nm3])
  refine wpAnyH_take_at (i := 4) (v := ?v4_3) rfl (by kernel_rfl) (by kernel_rfl) (by kernel_rfl) (fun _ _ _ h => h) (Or.inl ⟨by rfl, ?y4_3⟩) hHeld ?r4_3
  case y4_3 => (intro w hSw; (try dsimp only at hSw); go_simp; first | done | with_reducible rfl)
  (try simp only [Act.put, nm1, nm2, nm3])
  refine wpAnyH_take_at (i := 6) (v := ?v6_4) rfl (by kernel_rfl) (by kernel_rfl) (by kernel_rfl) (fun _ _ _ h => h) (Or.inl ⟨by rfl, ?y6_4⟩) hHeld ?r6_4
  case y6_4 => (intro w hSw; (try dsimp only at hSw); go_simp; first | done | with_reducible rfl)
  (try simp only [Act.put, nm1, nm2, nm3])
  refine wpAnyH_three (i := 1) (j := 8) (k := 9) (by kernel_rfl) rfl rfl rfl (fun KK hK => ?p1_5) (fun KK hK => ?p8_5) (fun KK hK => ?p9_5)
  case p1_5 =>
   go_simp
   refine (HNEW.out _ _ _ _ _ _ _ _ _ _ HND.out).mono ?_
   rintro e w6 ⟨d6, rfl, N6⟩
   clear HND
   go_simp
   refine hK.out _ _ ?s_7 (fun hHeld => ?_)
   case s_7 => exact HMK.out _ N6.out.hU
   clear hK KK
   (try simp only [Act.put, nm1, nm2, nm3])
   refine wpAnyH_three (i := 3) (j := 8) (k := 9) (by kernel_rfl) rfl rfl rfl (fun KK hK => ?p3_8) (fun KK hK => ?p8_8) (fun KK hK => ?p9_8)
   case p3_8 =>
    go_simp
    refine (HPOL.out _ _ _ _ _ _ _ _ _ _ N6.out).mono ?_
    rintro e w9 ⟨o9a, n9a, c9a, o9b, n9b, c9b, o9c, n9c, c9c, o9d, n9d, c9d, rfl, N9⟩
    clear N6
    go_simp
    refine hK.out _ _ ?s_10 (fun hHeld => ?_)
    case s_10 => exact HMK.out _ N9.out.hU
    clear hK KK
    (try simp only [Act.put, nm1, nm2, nm3])
    refine wpAnyH_three (i := 5) (j := 8) (k := 9) (by kernel_rfl) rfl rfl rfl (fun KK hK => ?p5_11) (fun KK hK => ?p8_11) (fun KK hK => ?p9_11)
    case p5_11 =>
     go_simp
     refine (HNEW.out _ _ _ _ _ _ _ _ _ _ N9.out).mono ?_
     rintro e w12 ⟨d12, rfl, N12⟩
     clear N9
     go_simp
     refine hK.out _ _ ?s_13 (fun hHeld => ?_)
     case s_13 => exact HMK.out _ N12.out.hU
     clear hK KK
     (try simp only [Act.put, nm1, nm2, nm3])
     refine wpAnyH_three (i := 7) (j := 8) (k := 9) (by kernel_rfl) rfl rfl rfl (fun KK hK => ?p7_14) (fun KK hK => ?p8_14) (fun KK hK => ?p9_14)
     case p7_14 =>
      go_simp
      refine (HPOL.out _ _ _ _ _ _ _ _ _ _ N12.out).mono ?_
      rintro e w15 ⟨o15a, n15a, c15a, o15b, n15b, c15b, o15c, n15c, c15c, o15d, n15d, c15d, rfl, N15⟩
      clear N12
      go_simp
      refine hK.out _ _ ?s_16 (fun hHeld => ?_)
      case s_16 => exact HMK.out _ N15.out.hU
      clear hK KK
      (try simp only [Act.put, nm1, nm2, nm3])
      refine wpAnyH_two (i := 8) (j := 9) (by kernel_rfl) rfl rfl (fun KK hK => ?p8_17) (fun KK hK => ?p9_17)
      case p8_17 =>
       have N18 := Lib.hid N15.out.box1
       clear N15
       go_simp
       refine hK.out _ _ ?s_19 (fun hHeld => ?_)
       case s_19 => exact HMK.out _ N18.out.hU
       clear hK KK
       (try simp only [Act.put, nm1, nm2, nm3])
       generalize w15.alloc (.cells #[.slice none 0 0, .slice none 0 0, .slice none 0 0, .slice none 0 0] 57) = w18 at *
       generalize w15.heap.size = b18 at *
       refine wpAnyH_one (i := 9) (by kernel_rfl) rfl (fun KK hK => ?_)
       have N21 := Lib.hid N18.out.box1
       clear N18
       go_simp
       refine hK.out _ _ ?s_22 (fun hHeld => ?_)
       case s_22 => exact HMK.out _ N21.out.hU
       clear hK KK
       (try simp only [Act.put, nm1, nm2, nm3])
       generalize w18.alloc (.cells #[.slice none 0 0, .slice none 0 0, .slice none 0 0, .slice none 0 0] 57) = w21 at *
       generalize w18.heap.size = b21 at *
       have HB := Lib.hid (N21.out.both (ba := b18) (bb := b21) (.inr rfl))
       clear N21
       obtain ⟨p0, q0, p1, q1, p2, q2, p3, q3⟩ := cf4 HB.out.1
       refine wpAnyH_one (i := 10) (by kernel_rfl) rfl (fun KK hK => ?_)
       go_simp
       refine hK.out _ _ ?s_24 (fun hHeld => ?_)
       case s_24 => exact HMK.out _ HB.out.2.2.1
       clear hK KK p0 q0 p1 q1 p2 q2 p3 q3
       (try simp only [Act.put, nm1, nm2, nm3])
       generalize ((((w21.setCell ⟨b18, 0, none⟩ (.slice o9a n9a c9a)).setCell ⟨b18, 1, none⟩ (.slice o9b n9b c9b)).setCell ⟨b18, 2, none⟩ (.slice o9c n9c c9c)).setCell ⟨b18, 3, none⟩ (.slice o9d n9d c9d)) = w1 at *
       obtain ⟨p0, q0, p1, q1, p2, q2, p3, q3⟩ := cf4 HB.out.2.1
       refine wpAnyH_one (i := 11) (by kernel_rfl) rfl (fun KK hK => ?_)
       go_simp
       refine hK.out _ _ ?z_24 (fun hHeld => ?_)
       case z_24 => exact HMK.out _ HB.out.2.2.2.hU
       clear hK KK p0 q0 p1 q1 p2 q2 p3 q3
       (try simp only [Act.put, nm1, nm2, nm3])
       generalize ((((w1.setCell ⟨b21, 0, none⟩ (.slice o15a n15a c15a)).setCell ⟨b21, 1, none⟩ (.slice o15b n15b c15b)).setCell ⟨b21, 2, none⟩ (.slice o15c n15c c15c)).setCell ⟨b21, 3, none⟩ (.slice o15d n15d c15d)) = w2 at *
       refine wpAnyH_done (by kernel_rfl) ?_ _
       refine NoPanic.normal ?_
       have HF := Lib.hid HB.out.2.2.2
       clear hHeld HMK HB
       go_wp2_with fail
       go_meet
       exact ⟨_, _, _, _, _, _, _, _, _, _, rfl, rfl, HF⟩
      case p9_17 =>
       have N25 := Lib.hid N15.out.box1
       clear N15
       go_simp
       refine hK.out _ _ ?s_26 (fun hHeld => ?_)
       case s_26 => exact HMK.out _ N25.out.hU
       clear hK KK
       (try simp only [Act.put, nm1, nm2, nm3])
       generalize w15.alloc (.cells #[.slice none 0 0, .slice none 0 0, .slice none 0 0, .slice none 0 0] 57) = w25 at *
       generalize w15.heap.size = b25 at *
       refine wpAnyH_one (i := 8) (by kernel_rfl) rfl (fun KK hK => ?_)
       have N28 := Lib.hid N25.out.box1
       clear N25
       go_simp
       refine hK.out _ _ ?s_29 (fun hHeld => ?_)
       case s_29 => exact HMK.out _ N28.out.hU
       clear hK KK
       (try simp only [Act.put, nm1, nm2, nm3])
       generalize w25.alloc (.cells #[.slice none 0 0, .slice none 0 0, .slice none 0 0, .slice none 0 0] 57) = w28 at *
       generalize w25.heap.size = b28 at *
       have HB := Lib.hid (N28.out.both (ba := b28) (bb := b25) (.inl rfl))
       clear N28
       obtain ⟨p0, q0, p1, q1, p2, q2, p3, q3⟩ := cf4 HB.out.1
       refine wpAnyH_one (i := 10) (by kernel_rfl) rfl (fun KK hK => ?_)
       go_simp
       refine hK.out _ _ ?s_31 (fun hHeld => ?_)
       case s_31 => exact HMK.out _ HB.out.2.2.1
       clear hK KK p0 q0 p1 q1 p2 q2 p3 q3
       (try simp only [Act.put, nm1, nm2, nm3])
       generalize ((((w28.setCell ⟨b28, 0, none⟩ (.slice o9a n9a c9a)).setCell ⟨b28, 1, none⟩ (.slice o9b n9b c9b)).setCell ⟨b28, 2, none⟩ (.slice o9c n9c c9c)).setCell ⟨b28, 3, none⟩ (.slice o9d n9d c9d)) = w1 at *
       obtain ⟨p0, q0, p1, q1, p2, q2, p3, q3⟩ := cf4 HB.out.2.1
       refine wpAnyH_one (i := 11) (by kernel_rfl) rfl (fun KK hK => ?_)
       go_simp
       refine hK.out _ _ ?z_31 (fun hHeld => ?_)
       case z_31 => exact HMK.out _ HB.out.2.2.2.hU
       clear hK KK p0 q0 p1 q1 p2 q2 p3 q3
       (try simp only [Act.put, nm1, nm2, nm3])
       generalize ((((w1.setCell ⟨b25, 0, none⟩ (.slice o15a n15a c15a)).setCell ⟨b25, 1, none⟩ (.slice o15b n15b c15b)).setCell ⟨b25, 2, none⟩ (.slice o15c n15c c15c)).setCell ⟨b25, 3, none⟩ (.slice o15d n15d c15d)) = w2 at *
       refine wpAnyH_done (by kernel_rfl) ?_ _
       refine NoPanic.normal ?_
       have HF := Lib.hid HB.out.2.2.2
       clear hHeld HMK HB
       go_wp2_with fail
       go_meet
       exact ⟨_, _, _, _, _, _, _, _, _, _, rfl, rfl, HF⟩
     case p8_14 =>
      have N32 := Lib.hid N12.out.box1
      clear N12
      go_simp
      refine hK.out _ _ ?s_33 (fun hHeld => ?_)
      case s_33 => exact HMK.out _ N32.out.hU
      clear hK KK
      (try simp only [Act.put, nm1, nm2, nm3])
      generalize w12.alloc (.cells #[.slice none 0 0, .slice none 0 0, .slice none 0 0, .slice none 0 0] 57) = w32 at *
      generalize w12.heap.size = b32 at *
      refine wpAnyH_two (i := 7) (j := 9) (by kernel_rfl) rfl rfl (fun KK hK => ?p7_34) (fun KK hK => ?p9_34)
      case p7_34 =>
       go_simp
       refine (HPOL.out _ _ _ _ _ _ _ _ _ _ N32.out).mono ?_
       rintro e w35 ⟨o35a, n35a, c35a, o35b, n35b, c35b, o35c, n35c, c35c, o35d, n35d, c35d, rfl, N35⟩
       clear N32
       go_simp
       refine hK.out _ _ ?s_36 (fun hHeld => ?_)
       case s_36 => exact HMK.out _ N35.out.hU
       clear hK KK
       (try simp only [Act.put, nm1, nm2, nm3])
       refine wpAnyH_one (i := 9) (by kernel_rfl) rfl (fun KK hK => ?_)
       have N38 := Lib.hid N35.out.box1
       clear N35
       go_simp
       refine hK.out _ _ ?s_39 (fun hHeld => ?_)
       case s_39 => exact HMK.out _ N38.out.hU
       clear hK KK
       (try simp only [Act.put, nm1, nm2, nm3])
       generalize w35.alloc (.cells #[.slice none 0 0, .slice none 0 0, .slice none 0 0, .slice none 0 0] 57) = w38 at *
       generalize w35.heap.size = b38 at *
       have HB := Lib.hid (N38.out.both (ba := b32) (bb := b38) (.inr rfl))
       clear N38
       obtain ⟨p0, q0, p1, q1, p2, q2, p3, q3⟩ := cf4 HB.out.1
       refine wpAnyH_one (i := 10) (by kernel_rfl) rfl (fun KK hK => ?_)
       go_simp
       refine hK.out _ _ ?s_41 (fun hHeld => ?_)
       case s_41 => exact HMK.out _ HB.out.2.2.1
       clear hK KK p0 q0 p1 q1 p2 q2 p3 q3
       (try simp only [Act.put, nm1, nm2, nm3])
       generalize ((((w38.setCell ⟨b32, 0, none⟩ (.slice o9a n9a c9a)).setCell ⟨b32, 1, none⟩ (.slice o9b n9b c9b)).setCell ⟨b32, 2, none⟩ (.slice o9c n9c c9c)).setCell ⟨b32, 3, none⟩ (.slice o9d n9d c9d)) = w1 at *
       obtain ⟨p0, q0, p1, q1, p2, q2, p3, q3⟩ := cf4 HB.out.2.1
       refine wpAnyH_one (i := 11) (by kernel_rfl) rfl (fun KK hK => ?_)
       go_simp
       refine hK.out _ _ ?z_41 (fun hHeld => ?_)
       case z_41 => exact HMK.out _ HB.out.2.2.2.hU
       clear hK KK p0 q0 p1 q1 p2 q2 p3 q3
       (try simp only [Act.put, nm1, nm2, nm3])
       generalize ((((w1.setCell ⟨b38, 0, none⟩ (.slice o35a n35a c35a)).setCell ⟨b38, 1, none⟩ (.slice o35b n35b c35b)).setCell ⟨b38, 2, none⟩ (.slice o35c n35c c35c)).setCell ⟨b38, 3, none⟩ (.slice o35d n35d c35d)) = w2 at *
       refine wpAnyH_done (by kernel_rfl) ?_ _
       refine NoPanic.normal ?_
       have HF := Lib.hid HB.out.2.2.2
       clear hHeld HMK HB
       go_wp2_with fail
       go_meet
       exact ⟨_, _, _, _, _, _, _, _, _, _, rfl, rfl, HF⟩
      case p9_34 =>
       have N42 := Lib.hid N32.out.box1
       clear N32
       go_simp
       refine hK.out _ _ ?s_43 (fun hHeld => ?_)
       case s_43 => exact HMK.out _ N42.out.hU
       clear hK KK
       (try simp only [Act.put, nm1, nm2, nm3])
       generalize w32.alloc (.cells #[.slice none 0 0, .slice none 0 0, .slice none 0 0, .slice none 0 0] 57) = w42 at *
       generalize w32.heap.size = b42 at *
       refine wpAnyH_one (i := 7) (by kernel_rfl) rfl (fun KK hK => ?_)
       go_simp
       refine (HPOL.out _ _ _ _ _ _ _ _ _ _ N42.out).mono ?_
       rintro e w45 ⟨o45a, n45a, c45a, o45b, n45b, c45b, o45c, n45c, c45c, o45d, n45d, c45d, rfl, N45⟩
       clear N42
       go_simp
       refine hK.out _ _ ?s_46 (fun hHeld => ?_)
       case s_46 => exact HMK.out _ N45.out.hU
       clear hK KK
       (try simp only [Act.put, nm1, nm2, nm3])
       have HB := Lib.hid (N45.out.both (ba := b32) (bb := b42) (.inr rfl))
       clear N45
       obtain ⟨p0, q0, p1, q1, p2, q2, p3, q3⟩ := cf4 HB.out.1
       refine wpAnyH_one (i := 10) (by kernel_rfl) rfl (fun KK hK => ?_)
       go_simp
       refine hK.out _ _ ?s_48 (fun hHeld => ?_)
       case s_48 => exact HMK.out _ HB.out.2.2.1
       clear hK KK p0 q0 p1 q1 p2 q2 p3 q3
       (try simp only [Act.put, nm1, nm2, nm3])
       generalize ((((w45.setCell ⟨b32, 0, none⟩ (.slice o9a n9a c9a)).setCell ⟨b32, 1, none⟩ (.slice o9b n9b c9b)).setCell ⟨b32, 2, none⟩ (.slice o9c n9c c9c)).setCell ⟨b32, 3, none⟩ (.slice o9d n9d c9d)) = w1 at *
       obtain ⟨p0, q0, p1, q1, p2, q2, p3, q3⟩ := cf4 HB.out.2.1
       refine wpAnyH_one (i := 11) (by kernel_rfl) rfl (fun KK hK => ?_)
       go_simp
       refine hK.out _ _ ?z_48 (fun hHeld => ?_)
       case z_48 => exact HMK.out _ HB.out.2.2.2.hU
       clear hK KK p0 q0 p1 q1 p2 q2 p3 q3
       (try simp only [Act.put, nm1, nm2, nm3])
       generalize ((((w1.setCell ⟨b42, 0, none⟩ (.slice o45a n45a c45a)).setCell ⟨b42, 1, none⟩ (.slice o45b n45b c45b)).setCell ⟨b42, 2, none⟩ (.slice o45c n45c c45c)).setCell ⟨b42, 3, none⟩ (.slice o45d n45d c45d)) = w2 at *
       refine wpAnyH_done (by kernel_rfl) ?_ _
       refine NoPanic.normal ?_
       have HF := Lib.hid HB.out.2.2.2
       clear hHeld HMK HB
       go_wp2_with fail
       go_meet
       exact ⟨_, _, _, _, _, _, _, _, _, _, rfl, rfl, HF⟩
     case p9_14 =>
      have N49 := Lib.hid N12.out.box1
      clear N12
      go_simp
      refine hK.out _ _ ?s_50 (fun hHeld => ?_)
      case s_50 => exact HMK.out _ N49.out.hU
      clear hK KK
      (try simp only [Act.put, nm1, nm2, nm3])
      generalize w12.alloc (.cells #[.slice none 0 0, .slice none 0 0, .slice none 0 0, .slice none 0 0] 57) = w49 at *
      generalize w12.heap.size = b49 at *
      refine wpAnyH_two (i := 7) (j := 8) (by kernel_rfl) rfl rfl (fun KK hK => ?p7_51) (fun KK hK => ?p8_51)
      case p7_51 =>
       go_simp
       refine (HPOL.out _ _ _ _ _ _ _ _ _ _ N49.out).mono ?_
       rintro e w52 ⟨o52a, n52a, c52a, o52b, n52b, c52b, o52c, n52c, c52c, o52d, n52d, c52d, rfl, N52⟩
       clear N49
       go_simp
       refine hK.out _ _ ?s_53 (fun hHeld => ?_)
       case s_53 => exact HMK.out _ N52.out.hU
       clear hK KK
       (try simp only [Act.put, nm1, nm2, nm3])
       refine wpAnyH_one (i := 8) (by kernel_rfl) rfl (fun KK hK => ?_)
       have N55 := Lib.hid N52.out.box1
       clear N52
       go_simp
       refine hK.out _ _ ?s_56 (fun hHeld => ?_)
       case s_56 => exact HMK.out _ N55.out.hU
       clear hK KK
       (try simp only [Act.put, nm1, nm2, nm3])
       generalize w52.alloc (.cells #[.slice none 0 0, .slice none 0 0, .slice none 0 0, .slice none 0 0] 57) = w55 at *
       generalize w52.heap.size = b55 at *
       have HB := Lib.hid (N55.out.both (ba := b55) (bb := b49) (.inl rfl))
       clear N55
       obtain ⟨p0, q0, p1, q1, p2, q2, p3, q3⟩ := cf4 HB.out.1
       refine wpAnyH_one (i := 10) (by kernel_rfl) rfl (fun KK hK => ?_)
       go_simp
       refine hK.out _ _ ?s_58 (fun hHeld => ?_)
       case s_58 => exact HMK.out _ HB.out.2.2.1
       clear hK KK p0 q0 p1 q1 p2 q2 p3 q3
       (try simp only [Act.put, nm1, nm2, nm3])
       generalize ((((w55.setCell ⟨b55, 0, none⟩ (.slice o9a n9a c9a)).setCell ⟨b55, 1, none⟩ (.slice o9b n9b c9b)).setCell ⟨b55, 2, none⟩ (.slice o9c n9c c9c)).setCell ⟨b55, 3, none⟩ (.slice o9d n9d c9d)) = w1 at *
       obtain ⟨p0, q0, p1, q1, p2, q2, p3, q3⟩ := cf4 HB.out.2.1
       refine wpAnyH_one (i := 11) (by kernel_rfl) rfl (fun KK hK => ?_)
       go_simp
       refine hK.out _ _ ?z_58 (fun hHeld => ?_)
       case z_58 => exact HMK.out _ HB.out.2.2.2.hU
       clear hK KK p0 q0 p1 q1 p2 q2 p3 q3
       (try simp only [Act.put, nm1, nm2, nm3])
       generalize ((((w1.setCell ⟨b49, 0, none⟩ (.slice o52a n52a c52a)).setCell ⟨b49, 1, none⟩ (.slice o52b n52b c52b)).setCell ⟨b49, 2, none⟩ (.slice o52c n52c c52c)).setCell ⟨b49, 3, none⟩ (.slice o52d n52d c52d)) = w2 at *
       refine wpAnyH_done (by kernel_rfl) ?_ _
       refine NoPanic.normal ?_
       have HF := Lib.hid HB.out.2.2.2
       clear hHeld HMK HB
       go_wp2_with fail
       go_meet
       exact ⟨_, _, _, _, _, _, _, _, _, _, rfl, rfl, HF⟩
      case p8_51 =>
       have N59 := Lib.hid N49.out.box1
       clear N49
       go_simp
       refine hK.out _ _ ?s_60 (fun hHeld => ?_)
       case s_60 => exact HMK.out _ N59.out.hU
       clear hK KK
       (try simp only [Act.put, nm1, nm2, nm3])
       generalize w49.alloc (.cells #[.slice none 0 0, .slice none 0 0, .slice none 0 0, .slice none 0 0] 57) = w59 at *
       generalize w49.heap.size = b59 at *
       refine wpAnyH_one (i := 7) (by kernel_rfl) rfl (fun KK hK => ?_)
       go_simp
       refine (HPOL.out _ _ _ _ _ _ _ _ _ _ N59.out).mono ?_
       rintro e w62 ⟨o62a, n62a, c62a, o62b, n62b, c62b, o62c, n62c, c62c, o62d, n62d, c62d, rfl, N62⟩
       clear N59
       go_simp
       refine hK.out _ _ ?s_63 (fun hHeld => ?_)
       case s_63 => exact HMK.out _ N62.out.hU
       clear hK KK
       (try simp only [Act.put, nm1, nm2, nm3])
       have HB := Lib.hid (N62.out.both (ba := b59) (bb := b49) (.inl rfl))
       clear N62
       obtain ⟨p0, q0, p1, q1, p2, q2, p3, q3⟩ := cf4 HB.out.1
       refine wpAnyH_one (i := 10) (by kernel_rfl) rfl (fun KK hK => ?_)
       go_simp
       refine hK.out _ _ ?s_65 (fun hHeld => ?_)
       case s_65 => exact HMK.out _ HB.out.2.2.1
       clear hK KK p0 q0 p1 q1 p2 q2 p3 q3
       (try simp only [Act.put, nm1, nm2, nm3])
       generalize ((((w62.setCell ⟨b59, 0, none⟩ (.slice o9a n9a c9a)).setCell ⟨b59, 1, none⟩ (.slice o9b n9b c9b)).setCell ⟨b59, 2, none⟩ (.slice o9c n9c c9c)).setCell ⟨b59, 3, none⟩ (.slice o9d n9d c9d)) = w1 at *
       obtain ⟨p0, q0, p1, q1, p2, q2, p3, q3⟩ := cf4 HB.out.2.1
       refine wpAnyH_one (i := 11) (by kernel_rfl) rfl (fun KK hK => ?_)
       go_simp
       refine hK.out _ _ ?z_65 (fun hHeld => ?_)
       case z_65 => exact HMK.out _ HB.out.2.2.2.hU
       clear hK KK p0 q0 p1 q1 p2 q2 p3 q3
       (try simp only [Act.put, nm1, nm2, nm3])
       generalize ((((w1.setCell ⟨b49, 0, none⟩ (.slice o62a n62a c62a)).setCell ⟨b49, 1, none⟩ (.slice o62b n62b c62b)).setCell ⟨b49, 2, none⟩ (.slice o62c n62c c62c)).setCell ⟨b49, 3, none⟩ (.slice o62d n62d c62d)) = w2 at *
       refine wpAnyH_done (by kernel_rfl) ?_ _
       refine NoPanic.normal ?_
       have HF := Lib.hid HB.out.2.2.2
       clear hHeld HMK HB
       go_wp2_with fail
       go_meet
       exact ⟨_, _, _, _, _, _, _, _, _, _, rfl, rfl, HF⟩
    case p8_11 =>
     have N66 := Lib.hid N9.out.box1
     clear N9
     go_simp
     refine hK.out _ _ ?s_67 (fun hHeld => ?_)
     case s_67 => exact HMK.out _ N66.out.hU
     clear hK KK
     (try simp only [Act.put, nm1, nm2, nm3])
     generalize w9.alloc (.cells #[.slice none 0 0, .slice none 0 0, .slice none 0 0, .slice none 0 0] 57) = w66 at *
     generalize w9.heap.size = b66 at *
     refine wpAnyH_two (i := 5) (j := 9) (by kernel_rfl) rfl rfl (fun KK hK => ?p5_68) (fun KK hK => ?p9_68)
     case p5_68 =>
      go_simp
      refine (HNEW.out _ _ _ _ _ _ _ _ _ _ N66.out).mono ?_
      rintro e w69 ⟨d69, rfl, N69⟩
      clear N66
      go_simp
      refine hK.out _ _ ?s_70 (fun hHeld => ?_)
      case s_70 => exact HMK.out _ N69.out.hU
      clear hK KK
      (try simp only [Act.put, nm1, nm2, nm3])
      refine wpAnyH_two (i := 7) (j := 9) (by kernel_rfl) rfl rfl (fun KK hK => ?p7_71) (fun KK hK => ?p9_71)
      case p7_71 =>
       go_simp
       refine (HPOL.out _ _ _ _ _ _ _ _ _ _ N69.out).mono ?_
       rintro e w72 ⟨o72a, n72a, c72a, o72b, n72b, c72b, o72c, n72c, c72c, o72d, n72d, c72d, rfl, N72⟩
       clear N69
       go_simp
       refine hK.out _ _ ?s_73 (fun hHeld => ?_)
       case s_73 => exact HMK.out _ N72.out.hU
       clear hK KK
       (try simp only [Act.put, nm1, nm2, nm3])
       refine wpAnyH_one (i := 9) (by kernel_rfl) rfl (fun KK hK => ?_)
       have N75 := Lib.hid N72.out.box1
       clear N72
       go_simp
       refine hK.out _ _ ?s_76 (fun hHeld => ?_)
       case s_76 => exact HMK.out _ N75.out.hU
       clear hK KK
       (try simp only [Act.put, nm1, nm2, nm3])
       generalize w72.alloc (.cells #[.slice none 0 0, .slice none 0 0, .slice none 0 0, .slice none 0 0] 57) = w75 at *
       generalize w72.heap.size = b75 at *
       have HB := Lib.hid (N75.out.both (ba := b66) (bb := b75) (.inr rfl))
       clear N75
       obtain ⟨p0, q0, p1, q1, p2, q2, p3, q3⟩ := cf4 HB.out.1
       refine wpAnyH_one (i := 10) (by kernel_rfl) rfl (fun KK hK => ?_)
       go_simp
       refine hK.out _ _ ?s_78 (fun hHeld => ?_)
       case s_78 => exact HMK.out _ HB.out.2.2.1
       clear hK KK p0 q0 p1 q1 p2 q2 p3 q3
       (try simp only [Act.put, nm1, nm2, nm3])
       generalize ((((w75.setCell ⟨b66, 0, none⟩ (.slice o9a n9a c9a)).setCell ⟨b66, 1, none⟩ (.slice o9b n9b c9b)).setCell ⟨b66, 2, none⟩ (.slice o9c n9c c9c)).setCell ⟨b66, 3, none⟩ (.slice o9d n9d c9d)) = w1 at *
       obtain ⟨p0, q0, p1, q1, p2, q2, p3, q3⟩ := cf4 HB.out.2.1
       refine wpAnyH_one (i := 11) (by kernel_rfl) rfl (fun KK hK => ?_)
       go_simp
       refine hK.out _ _ ?z_78 (fun hHeld => ?_)
       case z_78 => exact HMK.out _ HB.out.2.2.2.hU
       clear hK KK p0 q0 p1 q1 p2 q2 p3 q3
       (try simp only [Act.put, nm1, nm2, nm3])
       generalize ((((w1.setCell ⟨b75, 0, none⟩ (.slice o72a n72a c72a)).setCell ⟨b75, 1, none⟩ (.slice o72b n72b c72b)).setCell ⟨b75, 2, none⟩ (.slice o72c n72c c72c)).setCell ⟨b75, 3, none⟩ (.slice o72d n72d c72d)) = w2 at *
       refine wpAnyH_done (by kernel_rfl) ?_ _
       refine NoPanic.normal ?_
       have HF := Lib.hid HB.out.2.2.2
       clear hHeld HMK HB
       go_wp2_with fail
       go_meet
       exact ⟨_, _, _, _, _, _, _, _, _, _, rfl, rfl, HF⟩
      case p9_71 =>
       have N79 := Lib.hid N69.out.box1
       clear N69
       go_simp
       refine hK.out _ _ ?s_80 (fun hHeld => ?_)
       case s_80 => exact HMK.out _ N79.out.hU
       clear hK KK
       (try simp only [Act.put, nm1, nm2, nm3])
       generalize w69.alloc (.cells #[.slice none 0 0, .slice none 0 0, .slice none 0 0, .slice none 0 0] 57) = w79 at *
       generalize w69.heap.size = b79 at *
       refine wpAnyH_one (i := 7) (by kernel_rfl) rfl (fun KK hK => ?_)
       go_simp
       refine (HPOL.out _ _ _ _ _ _ _ _ _ _ N79.out).mono ?_
       rintro e w82 ⟨o82a, n82a, c82a, o82b, n82b, c82b, o82c, n82c, c82c, o82d, n82d, c82d, rfl, N82⟩
       clear N79
       go_simp
       refine hK.out _ _ ?s_83 (fun hHeld => ?_)
       case s_83 => exact HMK.out _ N82.out.hU
       clear hK KK
       (try simp only [Act.put, nm1, nm2, nm3])
       have HB := Lib.hid (N82.out.both (ba := b66) (bb := b79) (.inr rfl))
       clear N82
       obtain ⟨p0, q0, p1, q1, p2, q2, p3, q3⟩ := cf4 HB.out.1
       refine wpAnyH_one (i := 10) (by kernel_rfl) rfl (fun KK hK => ?_)
       go_simp
       refine hK.out _ _ ?s_85 (fun hHeld => ?_)
       case s_85 => exact HMK.out _ HB.out.2.2.1
       clear hK KK p0 q0 p1 q1 p2 q2 p3 q3
       (try simp only [Act.put, nm1, nm2, nm3])
       generalize ((((w82.setCell ⟨b66, 0, none⟩ (.slice o9a n9a c9a)).setCell ⟨b66, 1, none⟩ (.slice o9b n9b c9b)).setCell ⟨b66, 2, none⟩ (.slice o9c n9c c9c)).setCell ⟨b66, 3, none⟩ (.slice o9d n9d c9d)) = w1 at *
       obtain ⟨p0, q0, p1, q1, p2, q2, p3, q3⟩ := cf4 HB.out.2.1
       refine wpAnyH_one (i := 11) (by kernel_rfl) rfl (fun KK hK => ?_)
       go_simp
       refine hK.out _ _ ?z_85 (fun hHeld => ?_)
       case z_85 => exact HMK.out _ HB.out.2.2.2.hU
       clear hK KK p0 q0 p1 q1 p2 q2 p3 q3
       (try simp only [Act.put, nm1, nm2, nm3])
       generalize ((((w1.setCell ⟨b79, 0, none⟩ (.slice o82a n82a c82a)).setCell ⟨b79, 1, none⟩ (.slice o82b n82b c82b)).setCell ⟨b79, 2, none⟩ (.slice o82c n82c c82c)).setCell ⟨b79, 3, none⟩ (.slice o82d n82d c82d)) = w2 at *
       refine wpAnyH_done (by kernel_rfl) ?_ _
       refine NoPanic.normal ?_
       have HF := Lib.hid HB.out.2.2.2
       clear hHeld HMK HB
       go_wp2_with fail
       go_meet
       exact ⟨_, _, _, _, _, _, _, _, _, _, rfl, rfl, HF⟩
     case p9_68 =>
      have N86 := Lib.hid N66.out.box1
      clear N66
      go_simp
      refine hK.out _ _ ?s_87 (fun hHeld => ?_)
      case s_87 => exact HMK.out _ N86.out.hU
      clear hK KK
      (try simp only [Act.put, nm1, nm2, nm3])
      generalize w66.alloc (.cells #[.slice none 0 0, .slice none 0 0, .slice none 0 0, .slice none 0 0] 57) = w86 at *
      generalize w66.heap.size = b86 at *
      refine wpAnyH_one (i := 5) (by kernel_rfl) rfl (fun KK hK => ?_)
      go_simp
      refine (HNEW.out _ _ _ _ _ _ _ _ _ _ N86.out).mono ?_
      rintro e w89 ⟨d89, rfl, N89⟩
      clear N86
      go_simp
      refine hK.out _ _ ?s_90 (fun hHeld => ?_)
      case s_90 => exact HMK.out _ N89.out.hU
      clear hK KK
      (try simp only [Act.put, nm1, nm2, nm3])
      refine wpAnyH_one (i := 7) (by kernel_rfl) rfl (fun KK hK => ?_)
      go_simp
      refine (HPOL.out _ _ _ _ _ _ _ _ _ _ N89.out).mono ?_
      rintro e w92 ⟨o92a, n92a, c92a, o92b, n92b, c92b, o92c, n92c, c92c, o92d, n92d, c92d, rfl, N92⟩
      clear N89
      go_simp
      refine hK.out _ _ ?s_93 (fun hHeld => ?_)
      case s_93 => exact HMK.out _ N92.out.hU
      clear hK KK
      (try simp only [Act.put, nm1, nm2, nm3])
      have HB := Lib.hid (N92.out.both (ba := b66) (bb := b86) (.inr rfl))
      clear N92
      obtain ⟨p0, q0, p1, q1, p2, q2, p3, q3⟩ := cf4 HB.out.1
      refine wpAnyH_one (i := 10) (by kernel_rfl) rfl (fun KK hK => ?_)
      go_simp
      refine hK.out _ _ ?s_95 (fun hHeld => ?_)
      case s_95 => exact HMK.out _ HB.out.2.2.1
      clear hK KK p0 q0 p1 q1 p2 q2 p3 q3
      (try simp only [Act.put, nm1, nm2, nm3])
      generalize ((((w92.setCell ⟨b66, 0, none⟩ (.slice o9a n9a c9a)).setCell ⟨b66, 1, none⟩ (.slice o9b n9b c9b)).setCell ⟨b66, 2, none⟩ (.slice o9c n9c c9c)).setCell ⟨b66, 3, none⟩ (.slice o9d n9d c9d)) = w1 at *
      obtain ⟨p0, q0, p1, q1, p2, q2, p3, q3⟩ := cf4 HB.out.2.1
      refine wpAnyH_one (i := 11) (by kernel_rfl) rfl (fun KK hK => ?_)
      go_simp
      refine hK.out _ _ ?z_95 (fun hHeld => ?_)
      case z_95 => exact HMK.out _ HB.out.2.2.2.hU
      clear hK KK p0 q0 p1 q1 p2 q2 p3 q3
      (try simp only [Act.put, nm1, nm2, nm3])
      generalize ((((w1.setCell ⟨b86, 0, none⟩ (.slice o92a n92a c92a)).setCell ⟨b86, 1, none⟩ (.slice o92b n92b c92b)).setCell ⟨b86, 2, none⟩ (.slice o92c n92c c92c)).setCell ⟨b86, 3, none⟩ (.slice o92d n92d c92d)) = w2 at *
      refine wpAnyH_done (by kernel_rfl) ?_ _
      refine NoPanic.normal ?_
      have HF := Lib.hid HB.out.2.2.2
      clear hHeld HMK HB
      go_wp2_with fail
      go_meet
      exact ⟨_, _, _, _, _, _, _, _, _, _, rfl, rfl, HF⟩
    case p9_11 =>
     have N96 := Lib.hid N9.out.box1
     clear N9
     go_simp
     refine hK.out _ _ ?s_97 (fun hHeld => ?_)
     case s_97 => exact HMK.out _ N96.out.hU
     clear hK KK
     (try simp only [Act.put, nm1, nm2, nm3])
     generalize w9.alloc (.cells #[.slice none 0 0, .slice none 0 0, .slice none 0 0, .slice none 0 0] 57) = w96 at *
     generalize w9.heap.size = b96 at *
     refine wpAnyH_two (i := 5) (j := 8) (by kernel_rfl) rfl rfl (fun KK hK => ?p5_98) (fun KK hK => ?p8_98)
     case p5_98 =>
      go_simp
      refine (HNEW.out _ _ _ _ _ _ _ _ _ _ N96.out).mono ?_
      rintro e w99 ⟨d99, rfl, N99⟩
      clear N96
      go_simp
      refine hK.out _ _ ?s_100 (fun hHeld => ?_)
      case s_100 => exact HMK.out _ N99.out.hU
      clear hK KK
      (try simp only [Act.put, nm1, nm2, nm3])
      refine wpAnyH_two (i := 7) (j := 8) (by kernel_rfl) rfl rfl (fun KK hK => ?p7_101) (fun KK hK => ?p8_101)
      case p7_101 =>
       go_simp
       refine (HPOL.out _ _ _ _ _ _ _ _ _ _ N99.out).mono ?_
       rintro e w102 ⟨o102a, n102a, c102a, o102b, n102b, c102b, o102c, n102c, c102c, o102d, n102d, c102d, rfl, N102⟩
       clear N99
       go_simp
       refine hK.out _ _ ?s_103 (fun hHeld => ?_)
       case s_103 => exact HMK.out _ N102.out.hU
       clear hK KK
       (try simp only [Act.put, nm1, nm2, nm3])
       refine wpAnyH_one (i := 8) (by kernel_rfl) rfl (fun KK hK => ?_)
       have N105 := Lib.hid N102.out.box1
       clear N102
       go_simp
       refine hK.out _ _ ?s_106 (fun hHeld => ?_)
       case s_106 => exact HMK.out _ N105.out.hU
       clear hK KK
       (try simp only [Act.put, nm1, nm2, nm3])
       generalize w102.alloc (.cells #[.slice none 0 0, .slice none 0 0, .slice none 0 0, .slice none 0 0] 57) = w105 at *
       generalize w102.heap.size = b105 at *
       have HB := Lib.hid (N105.out.both (ba := b105) (bb := b96) (.inl rfl))
       clear N105
       obtain ⟨p0, q0, p1, q1, p2, q2, p3, q3⟩ := cf4 HB.out.1
       refine wpAnyH_one (i := 10) (by kernel_rfl) rfl (fun KK hK => ?_)
       go_simp
       refine hK.out _ _ ?s_108 (fun hHeld => ?_)
       case s_108 => exact HMK.out _ HB.out.2.2.1
       clear hK KK p0 q0 p1 q1 p2 q2 p3 q3
       (try simp only [Act.put, nm1, nm2, nm3])
       generalize ((((w105.setCell ⟨b105, 0, none⟩ (.slice o9a n9a c9a)).setCell ⟨b105, 1, none⟩ (.slice o9b n9b c9b)).setCell ⟨b105, 2, none⟩ (.slice o9c n9c c9c)).setCell ⟨b105, 3, none⟩ (.slice o9d n9d c9d)) = w1 at *
       obtain ⟨p0, q0, p1, q1, p2, q2, p3, q3⟩ := cf4 HB.out.2.1
       refine wpAnyH_one (i := 11) (by kernel_rfl) rfl (fun KK hK => ?_)
       go_simp
       refine hK.out _ _ ?z_108 (fun hHeld => ?_)
       case z_108 => exact HMK.out _ HB.out.2.2.2.hU
       clear hK KK p0 q0 p1 q1 p2 q2 p3 q3
       (try simp only [Act.put, nm1, nm2, nm3])
       generalize ((((w1.setCell ⟨b96, 0, none⟩ (.slice o102a n102a c102a)).setCell ⟨b96, 1, none⟩ (.slice o102b n102b c102b)).setCell ⟨b96, 2, none⟩ (.slice o102c n102c c102c)).setCell ⟨b96, 3, none⟩ (.slice o102d n102d c102d)) = w2 at *
       refine wpAnyH_done (by kernel_rfl) ?_ _
       refine NoPanic.normal ?_
       have HF := Lib.hid HB.out.2.2.2
       clear hHeld HMK HB
       go_wp2_with fail
       go_meet
       exact ⟨_, _, _, _, _, _, _, _, _, _, rfl, rfl, HF⟩
      case p8_101 =>
       have N109 := Lib.hid N99.out.box1
       clear N99
       go_simp
       refine hK.out _ _ ?s_110 (fun hHeld => ?_)
       case s_110 => exact HMK.out _ N109.out.hU
       clear hK KK
       (try simp only [Act.put, nm1, nm2, nm3])
       generalize w99.alloc (.cells #[.slice none 0 0, .slice none 0 0, .slice none 0 0, .slice none 0 0] 57) = w109 at *
       generalize w99.heap.size = b109 at *
       refine wpAnyH_one (i := 7) (by kernel_rfl) rfl (fun KK hK => ?_)
       go_simp
       refine (HPOL.out _ _ _ _ _ _ _ _ _ _ N109.out).mono ?_
       rintro e w112 ⟨o112a, n112a, c112a, o112b, n112b, c112b, o112c, n112c, c112c, o112d, n112d, c112d, rfl, N112⟩
       clear N109
       go_simp
       refine hK.out _ _ ?s_113 (fun hHeld => ?_)
       case s_113 => exact HMK.out _ N112.out.hU
       clear hK KK
       (try simp only [Act.put, nm1, nm2, nm3])
       have HB := Lib.hid (N112.out.both (ba := b109) (bb := b96) (.inl rfl))
       clear N112
       obtain ⟨p0, q0, p1, q1, p2, q2, p3, q3⟩ := cf4 HB.out.1
       refine wpAnyH_one (i := 10) (by kernel_rfl) rfl (fun KK hK => ?_)
       go_simp
       refine hK.out _ _ ?s_115 (fun hHeld => ?_)
       case s_115 => exact HMK.out _ HB.out.2.2.1
       clear hK KK p0 q0 p1 q1 p2 q2 p3 q3
       (try simp only [Act.put, nm1, nm2, nm3])
       generalize ((((w112.setCell ⟨b109, 0, none⟩ (.slice o9a n9a c9a)).setCell ⟨b109, 1, none⟩ (.slice o9b n9b c9b)).setCell ⟨b109, 2, none⟩ (.slice o9c n9c c9c)).setCell ⟨b109, 3, none⟩ (.slice o9d n9d c9d)) = w1 at *
       obtain ⟨p0, q0, p1, q1, p2, q2, p3, q3⟩ := cf4 HB.out.2.1
       refine wpAnyH_one (i := 11) (by kernel_rfl) rfl (fun KK hK => ?_)
       go_simp
       refine hK.out _ _ ?z_115 (fun hHeld => ?_)
       case z_115 => exact HMK.out _ HB.out.2.2.2.hU
       clear hK KK p0 q0 p1 q1 p2 q2 p3 q3
       (try simp only [Act.put, nm1, nm2, nm3])
       generalize ((((w1.setCell ⟨b96, 0, none⟩ (.slice o112a n112a c112a)).setCell ⟨b96, 1, none⟩ (.slice o112b n112b c112b)).setCell ⟨b96, 2, none⟩ (.slice o112c n112c c112c)).setCell ⟨b96, 3, none⟩ (.slice o112d n112d c112d)) = w2 at *
       refine wpAnyH_done (by kernel_rfl) ?_ _
       refine NoPanic.normal ?_
       have HF := Lib.hid HB.out.2.2.2
       clear hHeld HMK HB
       go_wp2_with fail
       go_meet
       exact ⟨_, _, _, _, _, _, _, _, _, _, rfl, rfl, HF⟩
     case p8_98 =>
      have N116 := Lib.hid N96.out.box1
      clear N96
      go_simp
      refine hK.out _ _ ?s_117 (fun hHeld => ?_)
      case s_117 => exact HMK.out _ N116.out.hU
      clear hK KK
      (try simp only [Act.put, nm1, nm2, nm3])
      generalize w96.alloc (.cells #[.slice none 0 0, .slice none 0 0, .slice none 0 0, .slice none 0 0] 57) = w116 at *
      generalize w96.heap.size = b116 at *
      refine wpAnyH_one (i := 5) (by kernel_rfl) rfl (fun KK hK => ?_)
      go_simp
      refine (HNEW.out _ _ _ _ _ _ _ _ _ _ N116.out).mono ?_
      rintro e w119 ⟨d119, rfl, N119⟩
      clear N116
      go_simp
      refine hK.out _ _ ?s_120 (fun hHeld => ?_)
      case s_120 => exact HMK.out _ N119.out.hU
      clear hK KK
      (try simp only [Act.put, nm1, nm2, nm3])
      refine wpAnyH_one (i := 7) (by kernel_rfl) rfl (fun KK hK => ?_)
      go_simp
      refine (HPOL.out _ _ _ _ _ _ _ _ _ _ N119.out).mono ?_
      rintro e w122 ⟨o122a, n122a, c122a, o122b, n122b, c122b, o122c, n122c, c122c, o122d, n122d, c122d, rfl, N122⟩
      clear N119
      go_simp
      refine hK.out _ _ ?s_123 (fun hHeld => ?_)
      case s_123 => exact HMK.out _ N122.out.hU
      clear hK KK
      (try simp only [Act.put, nm1, nm2, nm3])
      have HB := Lib.hid (N122.out.both (ba := b116) (bb := b96) (.inl rfl))
      clear N122
      obtain ⟨p0, q0, p1, q1, p2, q2, p3, q3⟩ := cf4 HB.out.1
      refine wpAnyH_one (i := 10) (by kernel_rfl) rfl (fun KK hK => ?_)
      go_simp
      refine hK.out _ _ ?s_125 (fun hHeld => ?_)
      case s_125 => exact HMK.out _ HB.out.2.2.1
      clear hK KK p0 q0 p1 q1 p2 q2 p3 q3
      (try simp only [Act.put, nm1, nm2, nm3])
      generalize ((((w122.setCell ⟨b116, 0, none⟩ (.slice o9a n9a c9a)).setCell ⟨b116, 1, none⟩ (.slice o9b n9b c9b)).setCell ⟨b116, 2, none⟩ (.slice o9c n9c c9c)).setCell ⟨b116, 3, none⟩ (.slice o9d n9d c9d)) = w1 at *
      obtain ⟨p0, q0, p1, q1, p2, q2, p3, q3⟩ := cf4 HB.out.2.1
      refine wpAnyH_one (i := 11) (by kernel_rfl) rfl (fun KK hK => ?_)
      go_simp
      refine hK.out _ _ ?z_125 (fun hHeld => ?_)
      case z_125 => exact HMK.out _ HB.out.2.2.2.hU
      clear hK KK p0 q0 p1 q1 p2 q2 p3 q3
      (try simp only [Act.put, nm1, nm2, nm3])
      generalize ((((w1.setCell ⟨b96, 0, none⟩ (.slice o122a n122a c122a)).setCell ⟨b96, 1, none⟩ (.slice o122b n122b c122b)).setCell ⟨b96, 2, none⟩ (.slice o122c n122c c122c)).setCell ⟨b96, 3, none⟩ (.slice o122d n122d c122d)) = w2 at *
      refine wpAnyH_done (by kernel_rfl) ?_ _
      refine NoPanic.normal ?_
      have HF := Lib.hid HB.out.2.2.2
      clear hHeld HMK HB
      go_wp2_with fail
      go_meet
      exact ⟨_, _, _, _, _, _, _, _, _, _, rfl, rfl, HF⟩
   case p8_8 =>
    have N126 := Lib.hid N6.out.box1
    clear N6
    go_simp
    refine hK.out _ _ ?s_127 (fun hHeld => ?_)
    case s_127 => exact HMK.out _ N126.out.hU
    clear hK KK
    (try simp only [Act.put, nm1, nm2, nm3])
    generalize w6.alloc (.cells #[.slice none 0 0, .slice none 0 0, .slice none 0 0, .slice none 0 0] 57) = w126 at *
    generalize w6.heap.size = b126 at *
    refine wpAnyH_two (i := 3) (j := 9) (by kernel_rfl) rfl rfl (fun KK hK => ?p3_128) (fun KK hK => ?p9_128)
    case p3_128 =>
     go_simp
     refine (HPOL.out _ _ _ _ _ _ _ _ _ _ N126.out).mono ?_
     rintro e w129 ⟨o129a, n129a, c129a, o129b, n129b, c129b, o129c, n129c, c129c, o129d, n129d, c129d, rfl, N129⟩
     clear N126
     go_simp
     refine hK.out _ _ ?s_130 (fun hHeld => ?_)
     case s_130 => exact HMK.out _ N129.out.hU
     clear hK KK
     (try simp only [Act.put, nm1, nm2, nm3])
     refine wpAnyH_two (i := 5) (j := 9) (by kernel_rfl) rfl rfl (fun KK hK => ?p5_131) (fun KK hK => ?p9_131)
     case p5_131 =>
      go_simp
      refine (HNEW.out _ _ _ _ _ _ _ _ _ _ N129.out).mono ?_
      rintro e w132 ⟨d132, rfl, N132⟩
      clear N129
      go_simp
      refine hK.out _ _ ?s_133 (fun hHeld => ?_)
      case s_133 => exact HMK.out _ N132.out.hU
      clear hK KK
      (try simp only [Act.put, nm1, nm2, nm3])
      refine wpAnyH_two (i := 7) (j := 9) (by kernel_rfl) rfl rfl (fun KK hK => ?p7_134) (fun KK hK => ?p9_134)
      case p7_134 =>
       go_simp
       refine (HPOL.out _ _ _ _ _ _ _ _ _ _ N132.out).mono ?_
       rintro e w135 ⟨o135a, n135a, c135a, o135b, n135b, c135b, o135c, n135c, c135c, o135d, n135d, c135d, rfl, N135⟩
       clear N132
       go_simp
       refine hK.out _ _ ?s_136 (fun hHeld => ?_)
       case s_136 => exact HMK.out _ N135.out.hU
       clear hK KK
       (try simp only [Act.put, nm1, nm2, nm3])
       refine wpAnyH_one (i := 9) (by kernel_rfl) rfl (fun KK hK => ?_)
       have N138 := Lib.hid N135.out.box1
       clear N135
       go_simp
       refine hK.out _ _ ?s_139 (fun hHeld => ?_)
       case s_139 => exact HMK.out _ N138.out.hU
       clear hK KK
       (try simp only [Act.put, nm1, nm2, nm3])
       generalize w135.alloc (.cells #[.slice none 0 0, .slice none 0 0, .slice none 0 0, .slice none 0 0] 57) = w138 at *
       generalize w135.heap.size = b138 at *
       have HB := Lib.hid (N138.out.both (ba := b126) (bb := b138) (.inr rfl))
       clear N138
       obtain ⟨p0, q0, p1, q1, p2, q2, p3, q3⟩ := cf4 HB.out.1
       refine wpAnyH_one (i := 10) (by kernel_rfl) rfl (fun KK hK => ?_)
       go_simp
       refine hK.out _ _ ?s_141 (fun hHeld => ?_)
       case s_141 => exact HMK.out _ HB.out.2.2.1
       clear hK KK p0 q0 p1 q1 p2 q2 p3 q3
       (try simp only [Act.put, nm1, nm2, nm3])
       generalize ((((w138.setCell ⟨b126, 0, none⟩ (.slice o129a n129a c129a)).setCell ⟨b126, 1, none⟩ (.slice o129b n129b c129b)).setCell ⟨b126, 2, none⟩ (.slice o129c n129c c129c)).setCell ⟨b126, 3, none⟩ (.slice o129d n129d c129d)) = w1 at *
       obtain ⟨p0, q0, p1, q1, p2, q2, p3, q3⟩ := cf4 HB.out.2.1
       refine wpAnyH_one (i := 11) (by kernel_rfl) rfl (fun KK hK => ?_)
       go_simp
       refine hK.out _ _ ?z_141 (fun hHeld => ?_)
       case z_141 => exact HMK.out _ HB.out.2.2.2.hU
       clear hK KK p0 q0 p1 q1 p2 q2 p3 q3
       (try simp only [Act.put, nm1, nm2, nm3])
       generalize ((((w1.setCell ⟨b138, 0, none⟩ (.slice o135a n135a c135a)).setCell ⟨b138, 1, none⟩ (.slice o135b n135b c135b)).setCell ⟨b138, 2, none⟩ (.slice o135c n135c c135c)).setCell ⟨b138, 3, none⟩ (.slice o135d n135d c135d)) = w2 at *
       refine wpAnyH_done (by kernel_rfl) ?_ _
       refine NoPanic.normal ?_
       have HF := Lib.hid HB.out.2.2.2
       clear hHeld HMK HB
       go_wp2_with fail
       go_meet
       exact ⟨_, _, _, _, _, _, _, _, _, _, rfl, rfl, HF⟩
      case p9_134 =>
       have N142 := Lib.hid N132.out.box1
       clear N132
       go_simp
       refine hK.out _ _ ?s_143 (fun hHeld => ?_)
       case s_143 => exact HMK.out _ N142.out.hU
       clear hK KK
       (try simp only [Act.put, nm1, nm2, nm3])
       generalize w132.alloc (.cells #[.slice none 0 0, .slice none 0 0, .slice none 0 0, .slice none 0 0] 57) = w142 at *
       generalize w132.heap.size = b142 at *
       refine wpAnyH_one (i := 7) (by kernel_rfl) rfl (fun KK hK => ?_)
       go_simp
       refine (HPOL.out _ _ _ _ _ _ _ _ _ _ N142.out).mono ?_
       rintro e w145 ⟨o145a, n145a, c145a, o145b, n145b, c145b, o145c, n145c, c145c, o145d, n145d, c145d, rfl, N145⟩
       clear N142
       go_simp
       refine hK.out _ _ ?s_146 (fun hHeld => ?_)
       case s_146 => exact HMK.out _ N145.out.hU
       clear hK KK
       (try simp only [Act.put, nm1, nm2, nm3])
       have HB := Lib.hid (N145.out.both (ba := b126) (bb := b142) (.inr rfl))
       clear N145
       obtain ⟨p0, q0, p1, q1, p2, q2, p3, q3⟩ := cf4 HB.out.1
       refine wpAnyH_one (i := 10) (by kernel_rfl) rfl (fun KK hK => ?_)
       go_simp
       refine hK.out _ _ ?s_148 (fun hHeld => ?_)
       case s_148 => exact HMK.out _ HB.out.2.2.1
       clear hK KK p0 q0 p1 q1 p2 q2 p3 q3
       (try simp only [Act.put, nm1, nm2, nm3])
       generalize ((((w145.setCell ⟨b126, 0, none⟩ (.slice o129a n129a c129a)).setCell ⟨b126, 1, none⟩ (.slice o129b n129b c129b)).setCell ⟨b126, 2, none⟩ (.slice o129c n129c c129c)).setCell ⟨b126, 3, none⟩ (.slice o129d n129d c129d)) = w1 at *
       obtain ⟨p0, q0, p1, q1, p2, q2, p3, q3⟩ := cf4 HB.out.2.1
       refine wpAnyH_one (i := 11) (by kernel_rfl) rfl (fun KK hK => ?_)
       go_simp
       refine hK.out _ _ ?z_148 (fun hHeld => ?_)
       case z_148 => exact HMK.out _ HB.out.2.2.2.hU
       clear hK KK p0 q0 p1 q1 p2 q2 p3 q3
       (try simp only [Act.put, nm1, nm2, nm3])
       generalize ((((w1.setCell ⟨b142, 0, none⟩ (.slice o145a n145a c145a)).setCell ⟨b142, 1, none⟩ (.slice o145b n145b c145b)).setCell ⟨b142, 2, none⟩ (.slice o145c n145c c145c)).setCell ⟨b142, 3, none⟩ (.slice o145d n145d c145d)) = w2 at *
       refine wpAnyH_done (by kernel_rfl) ?_ _
       refine NoPanic.normal ?_
       have HF := Lib.hid HB.out.2.2.2
       clear hHeld HMK HB
       go_wp2_with fail
       go_meet
       exact ⟨_, _, _, _, _, _, _, _, _, _, rfl, rfl, HF⟩
     case p9_131 =>
      have N149 := Lib.hid N129.out.box1
      clear N129
      go_simp
      refine hK.out _ _ ?s_150 (fun hHeld => ?_)
      case s_150 => exact HMK.out _ N149.out.hU
      clear hK KK
      (try simp only [Act.put, nm1, nm2, nm3])
      generalize w129.alloc (.cells #[.slice none 0 0, .slice none 0 0, .slice none 0 0, .slice none 0 0] 57) = w149 at *
      generalize w129.heap.size = b149 at *
      refine wpAnyH_one (i := 5) (by kernel_rfl) rfl (fun KK hK => ?_)
      go_simp
      refine (HNEW.out _ _ _ _ _ _ _ _ _ _ N149.out).mono ?_
      rintro e w152 ⟨d152, rfl, N152⟩
      clear N149
      go_simp
      refine hK.out _ _ ?s_153 (fun hHeld => ?_)
      case s_153 => exact HMK.out _ N152.out.hU
      clear hK KK
      (try simp only [Act.put, nm1, nm2, nm3])
      refine wpAnyH_one (i := 7) (by kernel_rfl) rfl (fun KK hK => ?_)
      go_simp
      refine (HPOL.out _ _ _ _ _ _ _ _ _ _ N152.out).mono ?_
      rintro e w155 ⟨o155a, n155a, c155a, o155b, n155b, c155b, o155c, n155c, c155c, o155d, n155d, c155d, rfl, N155⟩
      clear N152
      go_simp
      refine hK.out _ _ ?s_156 (fun hHeld => ?_)
      case s_156 => exact HMK.out _ N155.out.hU
      clear hK KK
      (try simp only [Act.put, nm1, nm2, nm3])
      have HB := Lib.hid (N155.out.both (ba := b126) (bb := b149) (.inr rfl))
      clear N155
      obtain ⟨p0, q0, p1, q1, p2, q2, p3, q3⟩ := cf4 HB.out.1
      refine wpAnyH_one (i := 10) (by kernel_rfl) rfl (fun KK hK => ?_)
      go_simp
      refine hK.out _ _ ?s_158 (fun hHeld => ?_)
      case s_158 => exact HMK.out _ HB.out.2.2.1
      clear hK KK p0 q0 p1 q1 p2 q2 p3 q3
      (try simp only [Act.put, nm1, nm2, nm3])
      generalize ((((w155.setCell ⟨b126, 0, none⟩ (.slice o129a n129a c129a)).setCell ⟨b126, 1, none⟩ (.slice o129b n129b c129b)).setCell ⟨b126, 2, none⟩ (.slice o129c n129c c129c)).setCell ⟨b126, 3, none⟩ (.slice o129d n129d c129d)) = w1 at *
      obtain ⟨p0, q0, p1, q1, p2, q2, p3, q3⟩ := cf4 HB.out.2.1
      refine wpAnyH_one (i := 11) (by kernel_rfl) rfl (fun KK hK => ?_)
      go_simp
      refine hK.out _ _ ?z_158 (fun hHeld => ?_)
      case z_158 => exact HMK.out _ HB.out.2.2.2.hU
      clear hK KK p0 q0 p1 q1 p2 q2 p3 q3
      (try simp only [Act.put, nm1, nm2, nm3])
      generalize ((((w1.setCell ⟨b149, 0, none⟩ (.slice o155a n155a c155a)).setCell ⟨b149, 1, none⟩ (.slice o155b n155b c155b)).setCell ⟨b149, 2, none⟩ (.slice o155c n155c c155c)).setCell ⟨b149, 3, none⟩ (.slice o155d n155d c155d)) = w2 at *
      refine wpAnyH_done (by kernel_rfl) ?_ _
      refine NoPanic.normal ?_
      have HF := Lib.hid HB.out.2.2.2
      clear hHeld HMK HB
      go_wp2_with fail
      go_meet
      exact ⟨_, _, _, _, _, _, _, _, _, _, rfl, rfl, HF⟩
    case p9_128 =>
     have N159 := Lib.hid N126.out.box1
     clear N126
     go_simp
     refine hK.out _ _ ?s_160 (fun hHeld => ?_)
     case s_160 => exact HMK.out _ N159.out.hU
     clear hK KK
     (try simp only [Act.put, nm1, nm2, nm3])
     generalize w126.alloc (.cells #[.slice none 0 0, .slice none 0 0, .slice none 0 0, .slice none 0 0] 57) = w159 at *
     generalize w126.heap.size = b159 at *
     refine wpAnyH_one (i := 3) (by kernel_rfl) rfl (fun KK hK => ?_)
     go_simp
     refine (HPOL.out _ _ _ _ _ _ _ _ _ _ N159.out).mono ?_
     rintro e w162 ⟨o162a, n162a, c162a, o162b, n162b, c162b, o162c, n162c, c162c, o162d, n162d, c162d, rfl, N162⟩
     clear N159
     go_simp
     refine hK.out _ _ ?s_163 (fun hHeld => ?_)
     case s_163 => exact HMK.out _ N162.out.hU
     clear hK KK
     (try simp only [Act.put, nm1, nm2, nm3])
     refine wpAnyH_one (i := 5) (by kernel_rfl) rfl (fun KK hK => ?_)
     go_simp
     refine (HNEW.out _ _ _ _ _ _ _ _ _ _ N162.out).mono ?_
     rintro e w165 ⟨d165, rfl, N165⟩
     clear N162
     go_simp
     refine hK.out _ _ ?s_166 (fun hHeld => ?_)
     case s_166 => exact HMK.out _ N165.out.hU
     clear hK KK
     (try simp only [Act.put, nm1, nm2, nm3])
     refine wpAnyH_one (i := 7) (by kernel_rfl) rfl (fun KK hK => ?_)
     go_simp
     refine (HPOL.out _ _ _ _ _ _ _ _ _ _ N165.out).mono ?_
     rintro e w168 ⟨o168a, n168a, c168a, o168b, n168b, c168b, o168c, n168c, c168c, o168d, n168d, c168d, rfl, N168⟩
     clear N165
     go_simp
     refine hK.out _ _ ?s_169 (fun hHeld => ?_)
     case s_169 => exact HMK.out _ N168.out.hU
     clear hK KK
     (try simp only [Act.put, nm1, nm2, nm3])
     have HB := Lib.hid (N168.out.both (ba := b126) (bb := b159) (.inr rfl))
     clear N168
     obtain ⟨p0, q0, p1, q1, p2, q2, p3, q3⟩ := cf4 HB.out.1
     refine wpAnyH_one (i := 10) (by kernel_rfl) rfl (fun KK hK => ?_)
     go_simp
     refine hK.out _ _ ?s_171 (fun hHeld => ?_)
     case s_171 => exact HMK.out _ HB.out.2.2.1
     clear hK KK p0 q0 p1 q1 p2 q2 p3 q3
     (try simp only [Act.put, nm1, nm2, nm3])
     generalize ((((w168.setCell ⟨b126, 0, none⟩ (.slice o162a n162a c162a)).setCell ⟨b126, 1, none⟩ (.slice o162b n162b c162b)).setCell ⟨b126, 2, none⟩ (.slice o162c n162c c162c)).setCell ⟨b126, 3, none⟩ (.slice o162d n162d c162d)) = w1 at *
     obtain ⟨p0, q0, p1, q1, p2, q2, p3, q3⟩ := cf4 HB.out.2.1
     refine wpAnyH_one (i := 11) (by kernel_rfl) rfl (fun KK hK => ?_)
     go_simp
     refine hK.out _ _ ?z_171 (fun hHeld => ?_)
     case z_171 => exact HMK.out _ HB.out.2.2.2.hU
     clear hK KK p0 q0 p1 q1 p2 q2 p3 q3
     (try simp only [Act.put, nm1, nm2, nm3])
     generalize ((((w1.setCell ⟨b159, 0, none⟩ (.slice o168a n168a c168a)).setCell ⟨b159, 1, none⟩ (.slice o168b n168b c168b)).setCell ⟨b159, 2, none⟩ (.slice o168c n168c c168c)).setCell ⟨b159, 3, none⟩ (.slice o168d n168d c168d)) = w2 at *
     refine wpAnyH_done (by kernel_rfl) ?_ _
     refine NoPanic.normal ?_
     have HF := Lib.hid HB.out.2.2.2
     clear hHeld HMK HB
     go_wp2_with fail
     go_meet
     exact ⟨_, _, _, _, _, _, _, _, _, _, rfl, rfl, HF⟩
   case p9_8 =>
    have N172 := Lib.hid N6.out.box1
    clear N6
    go_simp
    refine hK.out _ _ ?s_173 (fun hHeld => ?_)
    case s_173 => exact HMK.out _ N172.out.hU
    clear hK KK
    (try simp only [Act.put, nm1, nm2, nm3])
    generalize w6.alloc (.cells #[.slice none 0 0, .slice none 0 0, .slice none 0 0, .slice none 0 0] 57) = w172 at *
    generalize w6.heap.size = b172 at *
    refine wpAnyH_two (i := 3) (j := 8) (by kernel_rfl) rfl rfl (fun KK hK => ?p3_174) (fun KK hK => ?p8_174)
    case p3_174 =>
     go_simp
     refine (HPOL.out _ _ _ _ _ _ _ _ _ _ N172.out).mono ?_
     rintro e w175 ⟨o175a, n175a, c175a, o175b, n175b, c175b, o175c, n175c, c175c, o175d, n175d, c175d, rfl, N175⟩
     clear N172
     go_simp
     refine hK.out _ _ ?s_176 (fun hHeld => ?_)
     case s_176 => exact HMK.out _ N175.out.hU
     clear hK KK
     (try simp only [Act.put, nm1, nm2, nm3])
     refine wpAnyH_two (i := 5) (j := 8) (by kernel_rfl) rfl rfl (fun KK hK => ?p5_177) (fun KK hK => ?p8_177)
     case p5_177 =>
      go_simp
      refine (HNEW.out _ _ _ _ _ _ _ _ _ _ N175.out).mono ?_
      rintro e w178 ⟨d178, rfl, N178⟩
      clear N175
      go_simp
      refine hK.out _ _ ?s_179 (fun hHeld => ?_)
      case s_179 => exact HMK.out _ N178.out.hU
      clear hK KK
      (try simp only [Act.put, nm1, nm2, nm3])
      refine wpAnyH_two (i := 7) (j := 8) (by kernel_rfl) rfl rfl (fun KK hK => ?p7_180) (fun KK hK => ?p8_180)
      case p7_180 =>
       go_simp
       refine (HPOL.out _ _ _ _ _ _ _ _ _ _ N178.out).mono ?_
       rintro e w181 ⟨o181a, n181a, c181a, o181b, n181b, c181b, o181c, n181c, c181c, o181d, n181d, c181d, rfl, N181⟩
       clear N178
       go_simp
       refine hK.out _ _ ?s_182 (fun hHeld => ?_)
       case s_182 => exact HMK.out _ N181.out.hU
       clear hK KK
       (try simp only [Act.put, nm1, nm2, nm3])
       refine wpAnyH_one (i := 8) (by kernel_rfl) rfl (fun KK hK => ?_)
       have N184 := Lib.hid N181.out.box1
       clear N181
       go_simp
       refine hK.out _ _ ?s_185 (fun hHeld => ?_)
       case s_185 => exact HMK.out _ N184.out.hU
       clear hK KK
       (try simp only [Act.put, nm1, nm2, nm3])
       generalize w181.alloc (.cells #[.slice none 0 0, .slice none 0 0, .slice none 0 0, .slice none 0 0] 57) = w184 at *
       generalize w181.heap.size = b184 at *
       have HB := Lib.hid (N184.out.both (ba := b184) (bb := b172) (.inl rfl))
       clear N184
       obtain ⟨p0, q0, p1, q1, p2, q2, p3, q3⟩ := cf4 HB.out.1
       refine wpAnyH_one (i := 10) (by kernel_rfl) rfl (fun KK hK => ?_)
       go_simp
       refine hK.out _ _ ?s_187 (fun hHeld => ?_)
       case s_187 => exact HMK.out _ HB.out.2.2.1
       clear hK KK p0 q0 p1 q1 p2 q2 p3 q3
       (try simp only [Act.put, nm1, nm2, nm3])
       generalize ((((w184.setCell ⟨b184, 0, none⟩ (.slice o175a n175a c175a)).setCell ⟨b184, 1, none⟩ (.slice o175b n175b c175b)).setCell ⟨b184, 2, none⟩ (.slice o175c n175c c175c)).setCell ⟨b184, 3, none⟩ (.slice o175d n175d c175d)) = w1 at *
       obtain ⟨p0, q0, p1, q1, p2, q2, p3, q3⟩ := cf4 HB.out.2.1
       refine wpAnyH_one (i := 11) (by kernel_rfl) rfl (fun KK hK => ?_)
       go_simp
       refine hK.out _ _ ?z_187 (fun hHeld => ?_)
       case z_187 => exact HMK.out _ HB.out.2.2.2.hU
       clear hK KK p0 q0 p1 q1 p2 q2 p3 q3
       (try simp only [Act.put, nm1, nm2, nm3])
       generalize ((((w1.setCell ⟨b172, 0, none⟩ (.slice o181a n181a c181a)).setCell ⟨b172, 1, none⟩ (.slice o181b n181b c181b)).setCell ⟨b172, 2, none⟩ (.slice o181c n181c c181c)).setCell ⟨b172, 3, none⟩ (.slice o181d n181d c181d)) = w2 at *
       refine wpAnyH_done (by kernel_rfl) ?_ _
       refine NoPanic.normal ?_
       have HF := Lib.hid HB.out.2.2.2
       clear hHeld HMK HB
       go_wp2_with fail
       go_meet
       exact ⟨_, _, _, _, _, _, _, _, _, _, rfl, rfl, HF⟩
      case p8_180 =>
       have N188 := Lib.hid N178.out.box1
       clear N178
       go_simp
       refine hK.out _ _ ?s_189 (fun hHeld => ?_)
       case s_189 => exact HMK.out _ N188.out.hU
       clear hK KK
       (try simp only [Act.put, nm1, nm2, nm3])
       generalize w178.alloc (.cells #[.slice none 0 0, .slice none 0 0, .slice none 0 0, .slice none 0 0] 57) = w188 at *
       generalize w178.heap.size = b188 at *
       refine wpAnyH_one (i := 7) (by kernel_rfl) rfl (fun KK hK => ?_)
       go_simp
       refine (HPOL.out _ _ _ _ _ _ _ _ _ _ N188.out).mono ?_
       rintro e w191 ⟨o191a, n191a, c191a, o191b, n191b, c191b, o191c, n191c, c191c, o191d, n191d, c191d, rfl, N191⟩
       clear N188
       go_simp
       refine hK.out _ _ ?s_192 (fun hHeld => ?_)
       case s_192 => exact HMK.out _ N191.out.hU
       clear hK KK
       (try simp only [Act.put, nm1, nm2, nm3])
       have HB := Lib.hid (N191.out.both (ba := b188) (bb := b172) (.inl rfl))
       clear N191
       obtain ⟨p0, q0, p1, q1, p2, q2, p3, q3⟩ := cf4 HB.out.1
       refine wpAnyH_one (i := 10) (by kernel_rfl) rfl (fun KK hK => ?_)
       go_simp
       refine hK.out _ _ ?s_194 (fun hHeld => ?_)
       case s_194 => exact HMK.out _ HB.out.2.2.1
       clear hK KK p0 q0 p1 q1 p2 q2 p3 q3
       (try simp only [Act.put, nm1, nm2, nm3])
       generalize ((((w191.setCell ⟨b188, 0, none⟩ (.slice o175a n175a c175a)).setCell ⟨b188, 1, none⟩ (.slice o175b n175b c175b)).setCell ⟨b188, 2, none⟩ (.slice o175c n175c c175c)).setCell ⟨b188, 3, none⟩ (.slice o175d n175d c175d)) = w1 at *
       obtain ⟨p0, q0, p1, q1, p2, q2, p3, q3⟩ := cf4 HB.out.2.1
       refine wpAnyH_one (i := 11) (by kernel_rfl) rfl (fun KK hK => ?_)
       go_simp
       refine hK.out _ _ ?z_194 (fun hHeld => ?_)
       case z_194 => exact HMK.out _ HB.out.2.2.2.hU
       clear hK KK p0 q0 p1 q1 p2 q2 p3 q3
       (try simp only [Act.put, nm1, nm2, nm3])
       generalize ((((w1.setCell ⟨b172, 0, none⟩ (.slice o191a n191a c191a)).setCell ⟨b172, 1, none⟩ (.slice o191b n191b c191b)).setCell ⟨b172, 2, none⟩ (.slice o191c n191c c191c)).setCell ⟨b172, 3, none⟩ (.slice o191d n191d c191d)) = w2 at *
       refine wpAnyH_done (by kernel_rfl) ?_ _
       refine NoPanic.normal ?_
       have HF := Lib.hid HB.out.2.2.2
       clear hHeld HMK HB
       go_wp2_with fail
       go_meet
       exact ⟨_, _, _, _, _, _, _, _, _, _, rfl, rfl, HF⟩
     case p8_177 =>
      have N195 := Lib.hid N175.out.box1
      clear N175
      go_simp
      refine hK.out _ _ ?s_196 (fun hHeld => ?_)
      case s_196 => exact HMK.out _ N195.out.hU
      clear hK KK
      (try simp only [Act.put, nm1, nm2, nm3])
      generalize w175.alloc (.cells #[.slice none 0 0, .slice none 0 0, .slice none 0 0, .slice none 0 0] 57) = w195 at *
      generalize w175.heap.size = b195 at *
      refine wpAnyH_one (i := 5) (by kernel_rfl) rfl (fun KK hK => ?_)
      go_simp
      refine (HNEW.out _ _ _ _ _ _ _ _ _ _ N195.out).mono ?_
      rintro e w198 ⟨d198, rfl, N198⟩
      clear N195
      go_simp
      refine hK.out _ _ ?s_199 (fun hHeld => ?_)
      case s_199 => exact HMK.out _ N198.out.hU
      clear hK KK
      (try simp only [Act.put, nm1, nm2, nm3])
      refine wpAnyH_one (i := 7) (by kernel_rfl) rfl (fun KK hK => ?_)
      go_simp
      refine (HPOL.out _ _ _ _ _ _ _ _ _ _ N198.out).mono ?_
      rintro e w201 ⟨o201a, n201a, c201a, o201b, n201b, c201b, o201c, n201c, c201c, o201d, n201d, c201d, rfl, N201⟩
      clear N198
      go_simp
      refine hK.out _ _ ?s_202 (fun hHeld => ?_)
      case s_202 => exact HMK.out _ N201.out.hU
      clear hK KK
      (try simp only [Act.put, nm1, nm2, nm3])
      have HB := Lib.hid (N201.out.both (ba := b195) (bb := b172) (.inl rfl))
      clear N201
      obtain ⟨p0, q0, p1, q1, p2, q2, p3, q3⟩ := cf4 HB.out.1
      refine wpAnyH_one (i := 10) (by kernel_rfl) rfl (fun KK hK => ?_)
      go_simp
      refine hK.out _ _ ?s_204 (fun hHeld => ?_)
      case s_204 => exact HMK.out _ HB.out.2.2.1
      clear hK KK p0 q0 p1 q1 p2 q2 p3 q3
      (try simp only [Act.put, nm1, nm2, nm3])
      generalize ((((w201.setCell ⟨b195, 0, none⟩ (.slice o175a n175a c175a)).setCell ⟨b195, 1, none⟩ (.slice o175b n175b c175b)).setCell ⟨b195, 2, none⟩ (.slice o175c n175c c175c)).setCell ⟨b195, 3, none⟩ (.slice o175d n175d c175d)) = w1 at *
      obtain ⟨p0, q0, p1, q1, p2, q2, p3, q3⟩ := cf4 HB.out.2.1
      refine wpAnyH_one (i := 11) (by kernel_rfl) rfl (fun KK hK => ?_)
      go_simp
      refine hK.out _ _ ?z_204 (fun hHeld => ?_)
      case z_204 => exact HMK.out _ HB.out.2.2.2.hU
      clear hK KK p0 q0 p1 q1 p2 q2 p3 q3
      (try simp only [Act.put, nm1, nm2, nm3])
      generalize ((((w1.setCell ⟨b172, 0, none⟩ (.slice o201a n201a c201a)).setCell ⟨b172, 1, none⟩ (.slice o201b n201b c201b)).setCell ⟨b172, 2, none⟩ (.slice o201c n201c c201c)).setCell ⟨b172, 3, none⟩ (.slice o201d n201d c201d)) = w2 at *
      refine wpAnyH_done (by kernel_rfl) ?_ _
      refine NoPanic.normal ?_
      have HF := Lib.hid HB.out.2.2.2
      clear hHeld HMK HB
      go_wp2_with fail
      go_meet
      exact ⟨_, _, _, _, _, _, _, _, _, _, rfl, rfl, HF⟩
    case p8_174 =>
     have N205 := Lib.hid N172.out.box1
     clear N172
     go_simp
     refine hK.out _ _ ?s_206 (fun hHeld => ?_)
     case s_206 => exact HMK.out _ N205.out.hU
     clear hK KK
     (try simp only [Act.put, nm1, nm2, nm3])
     generalize w172.alloc (.cells #[.slice none 0 0, .slice none 0 0, .slice none 0 0, .slice none 0 0] 57) = w205 at *
     generalize w172.heap.size = b205 at *
     refine wpAnyH_one (i := 3) (by kernel_rfl) rfl (fun KK hK => ?_)
     go_simp
     refine (HPOL.out _ _ _ _ _ _ _ _ _ _ N205.out).mono ?_
     rintro e w208 ⟨o208a, n208a, c208a, o208b, n208b, c208b, o208c, n208c, c208c, o208d, n208d, c208d, rfl, N208⟩
     clear N205
     go_simp
     refine hK.out _ _ ?s_209 (fun hHeld => ?_)
     case s_209 => exact HMK.out _ N208.out.hU
     clear hK KK
     (try simp only [Act.put, nm1, nm2, nm3])
     refine wpAnyH_one (i := 5) (by kernel_rfl) rfl (fun KK hK => ?_)
     go_simp
     refine (HNEW.out _ _ _ _ _ _ _ _ _ _ N208.out).mono ?_
     rintro e w211 ⟨d211, rfl, N211⟩
     clear N208
     go_simp
     refine hK.out _ _ ?s_212 (fun hHeld => ?_)
     case s_212 => exact HMK.out _ N211.out.hU
     clear hK KK
     (try simp only [Act.put, nm1, nm2, nm3])
     refine wpAnyH_one (i := 7) (by kernel_rfl) rfl (fun KK hK => ?_)
     go_simp
     refine (HPOL.out _ _ _ _ _ _ _ _ _ _ N211.out).mono ?_
     rintro e w214 ⟨o214a, n214a, c214a, o214b, n214b, c214b, o214c, n214c, c214c, o214d, n214d, c214d, rfl, N214⟩
     clear N211
     go_simp
     refine hK.out _ _ ?s_215 (fun hHeld => ?_)
     case s_215 => exact HMK.out _ N214.out.hU
     clear hK KK
     (try simp only [Act.put, nm1, nm2, nm3])
     have HB := Lib.hid (N214.out.both (ba := b205) (bb := b172) (.inl rfl))
     clear N214
     obtain ⟨p0, q0, p1, q1, p2, q2, p3, q3⟩ := cf4 HB.out.1
     refine wpAnyH_one (i := 10) (by kernel_rfl) rfl (fun KK hK => ?_)
     go_simp
     refine hK.out _ _ ?s_217 (fun hHeld => ?_)
     case s_217 => exact HMK.out _ HB.out.2.2.1
     clear hK KK p0 q0 p1 q1 p2 q2 p3 q3
     (try simp only [Act.put, nm1, nm2, nm3])
     generalize ((((w214.setCell ⟨b205, 0, none⟩ (.slice o208a n208a c208a)).setCell ⟨b205, 1, none⟩ (.slice o208b n208b c208b)).setCell ⟨b205, 2, none⟩ (.slice o208c n208c c208c)).setCell ⟨b205, 3, none⟩ (.slice o208d n208d c208d)) = w1 at *
     obtain ⟨p0, q0, p1, q1, p2, q2, p3, q3⟩ := cf4 HB.out.2.1
     refine wpAnyH_one (i := 11) (by kernel_rfl) rfl (fun KK hK => ?_)
     go_simp
     refine hK.out _ _ ?z_217 (fun hHeld => ?_)
     case z_217 => exact HMK.out _ HB.out.2.2.2.hU
     clear hK KK p0 q0 p1 q1 p2 q2 p3 q3
     (try simp only [Act.put, nm1, nm2, nm3])
     generalize ((((w1.setCell ⟨b172, 0, none⟩ (.slice o214a n214a c214a)).setCell ⟨b172, 1, none⟩ (.slice o214b n214b c214b)).setCell ⟨b172, 2, none⟩ (.slice o214c n214c c214c)).setCell ⟨b172, 3, none⟩ (.slice o214d n214d c214d)) = w2 at *
     refine wpAnyH_done (by kernel_rfl) ?_ _
     refine NoPanic.normal ?_
     have HF := Lib.hid HB.out.2.2.2
     clear hHeld HMK HB
     go_wp2_with fail
     go_meet
     exact ⟨_, _, _, _, _, _, _, _, _, _, rfl, rfl, HF⟩
  case p8_5 =>
   have N218 := Lib.hid HND.out.box1
   clear HND
   go_simp
   refine hK.out _ _ ?s_219 (fun hHeld => ?_)
   case s_219 => exact HMK.out _ N218.out.hU
   clear hK KK
   (try simp only [Act.put, nm1, nm2, nm3])
   generalize wd.alloc (.cells #[.slice none 0 0, .slice none 0 0, .slice none 0 0, .slice none 0 0] 57) = w218 at *
   generalize wd.heap.size = b218 at *
   refine wpAnyH_two (i := 1) (j := 9) (by kernel_rfl) rfl rfl (fun KK hK => ?p1_220) (fun KK hK => ?p9_220)
   case p1_220 =>
    go_simp
    refine (HNEW.out _ _ _ _ _ _ _ _ _ _ N218.out).mono ?_
    rintro e w221 ⟨d221, rfl, N221⟩
    clear N218
    go_simp
    refine hK.out _ _ ?s_222 (fun hHeld => ?_)
    case s_222 => exact HMK.out _ N221.out.hU
    clear hK KK
    (try simp only [Act.put, nm1, nm2, nm3])
    refine wpAnyH_two (i := 3) (j := 9) (by kernel_rfl) rfl rfl (fun KK hK => ?p3_223) (fun KK hK => ?p9_223)
    case p3_223 =>
     go_simp
     refine (HPOL.out _ _ _ _ _ _ _ _ _ _ N221.out).mono ?_
     rintro e w224 ⟨o224a, n224a, c224a, o224b, n224b, c224b, o224c, n224c, c224c, o224d, n224d, c224d, rfl, N224⟩
     clear N221
     go_simp
     refine hK.out _ _ ?s_225 (fun hHeld => ?_)
     case s_225 => exact HMK.out _ N224.out.hU
     clear hK KK
     (try simp only [Act.put, nm1, nm2, nm3])
     refine wpAnyH_two (i := 5) (j := 9) (by kernel_rfl) rfl rfl (fun KK hK => ?p5_226) (fun KK hK => ?p9_226)
     case p5_226 =>
      go_simp
      refine (HNEW.out _ _ _ _ _ _ _ _ _ _ N224.out).mono ?_
      rintro e w227 ⟨d227, rfl, N227⟩
      clear N224
      go_simp
      refine hK.out _ _ ?s_228 (fun hHeld => ?_)
      case s_228 => exact HMK.out _ N227.out.hU
      clear hK KK
      (try simp only [Act.put, nm1, nm2, nm3])
      refine wpAnyH_two (i := 7) (j := 9) (by kernel_rfl) rfl rfl (fun KK hK => ?p7_229) (fun KK hK => ?p9_229)
      case p7_229 =>
       go_simp
       refine (HPOL.out _ _ _ _ _ _ _ _ _ _ N227.out).mono ?_
       rintro e w230 ⟨o230a, n230a, c230a, o230b, n230b, c230b, o230c, n230c, c230c, o230d, n230d, c230d, rfl, N230⟩
       clear N227
       go_simp
       refine hK.out _ _ ?s_231 (fun hHeld => ?_)
       case s_231 => exact HMK.out _ N230.out.hU
       clear hK KK
       (try simp only [Act.put, nm1, nm2, nm3])
       refine wpAnyH_one (i := 9) (by kernel_rfl) rfl (fun KK hK => ?_)
       have N233 := Lib.hid N230.out.box1
       clear N230
       go_simp
       refine hK.out _ _ ?s_234 (fun hHeld => ?_)
       case s_234 => exact HMK.out _ N233.out.hU
       clear hK KK
       (try simp only [Act.put, nm1, nm2, nm3])
       generalize w230.alloc (.cells #[.slice none 0 0, .slice none 0 0, .slice none 0 0, .slice none 0 0] 57) = w233 at *
       generalize w230.heap.size = b233 at *
       have HB := Lib.hid (N233.out.both (ba := b218) (bb := b233) (.inr rfl))
       clear N233
       obtain ⟨p0, q0, p1, q1, p2, q2, p3, q3⟩ := cf4 HB.out.1
       refine wpAnyH_one (i := 10) (by kernel_rfl) rfl (fun KK hK => ?_)
       go_simp
       refine hK.out _ _ ?s_236 (fun hHeld => ?_)
       case s_236 => exact HMK.out _ HB.out.2.2.1
       clear hK KK p0 q0 p1 q1 p2 q2 p3 q3
       (try simp only [Act.put, nm1, nm2, nm3])
       generalize ((((w233.setCell ⟨b218, 0, none⟩ (.slice o224a n224a c224a)).setCell ⟨b218, 1, none⟩ (.slice o224b n224b c224b)).setCell ⟨b218, 2, none⟩ (.slice o224c n224c c224c)).setCell ⟨b218, 3, none⟩ (.slice o224d n224d c224d)) = w1 at *
       obtain ⟨p0, q0, p1, q1, p2, q2, p3, q3⟩ := cf4 HB.out.2.1
       refine wpAnyH_one (i := 11) (by kernel_rfl) rfl (fun KK hK => ?_)
       go_simp
       refine hK.out _ _ ?z_236 (fun hHeld => ?_)
       case z_236 => exact HMK.out _ HB.out.2.2.2.hU
       clear hK KK p0 q0 p1 q1 p2 q2 p3 q3
       (try simp only [Act.put, nm1, nm2, nm3])
       generalize ((((w1.setCell ⟨b233, 0, none⟩ (.slice o230a n230a c230a)).setCell ⟨b233, 1, none⟩ (.slice o230b n230b c230b)).setCell ⟨b233, 2, none⟩ (.slice o230c n230c c230c)).setCell ⟨b233, 3, none⟩ (.slice o230d n230d c230d)) = w2 at *
       refine wpAnyH_done (by kernel_rfl) ?_ _
       refine NoPanic.normal ?_
       have HF := Lib.hid HB.out.2.2.2
       clear hHeld HMK HB
       go_wp2_with fail
       go_meet
       exact ⟨_, _, _, _, _, _, _, _, _, _, rfl, rfl, HF⟩
      case p9_229 =>
       have N237 := Lib.hid N227.out.box1
       clear N227
       go_simp
       refine hK.out _ _ ?s_238 (fun hHeld => ?_)
       case s_238 => exact HMK.out _ N237.out.hU
       clear hK KK
       (try simp only [Act.put, nm1, nm2, nm3])
       generalize w227.alloc (.cells #[.slice none 0 0, .slice none 0 0, .slice none 0 0, .slice none 0 0] 57) = w237 at *
       generalize w227.heap.size = b237 at *
       refine wpAnyH_one (i := 7) (by kernel_rfl) rfl (fun KK hK => ?_)
       go_simp
       refine (HPOL.out _ _ _ _ _ _ _ _ _ _ N237.out).mono ?_
       rintro e w240 ⟨o240a, n240a, c240a, o240b, n240b, c240b, o240c, n240c, c240c, o240d, n240d, c240d, rfl, N240⟩
       clear N237
       go_simp
       refine hK.out _ _ ?s_241 (fun hHeld => ?_)
       case s_241 => exact HMK.out _ N240.out.hU
       clear hK KK
       (try simp only [Act.put, nm1, nm2, nm3])
       have HB := Lib.hid (N240.out.both (ba := b218) (bb := b237) (.inr rfl))
       clear N240
       obtain ⟨p0, q0, p1, q1, p2, q2, p3, q3⟩ := cf4 HB.out.1
       refine wpAnyH_one (i := 10) (by kernel_rfl) rfl (fun KK hK => ?_)
       go_simp
       refine hK.out _ _ ?s_243 (fun hHeld => ?_)
       case s_243 => exact HMK.out _ HB.out.2.2.1
       clear hK KK p0 q0 p1 q1 p2 q2 p3 q3
       (try simp only [Act.put, nm1, nm2, nm3])
       generalize ((((w240.setCell ⟨b218, 0, none⟩ (.slice o224a n224a c224a)).setCell ⟨b218, 1, none⟩ (.slice o224b n224b c224b)).setCell ⟨b218, 2, none⟩ (.slice o224c n224c c224c)).setCell ⟨b218, 3, none⟩ (.slice o224d n224d c224d)) = w1 at *
       obtain ⟨p0, q0, p1, q1, p2, q2, p3, q3⟩ := cf4 HB.out.2.1
       refine wpAnyH_one (i := 11) (by kernel_rfl) rfl (fun KK hK => ?_)
       go_simp
       refine hK.out _ _ ?z_243 (fun hHeld => ?_)
       case z_243 => exact HMK.out _ HB.out.2.2.2.hU
       clear hK KK p0 q0 p1 q1 p2 q2 p3 q3
       (try simp only [Act.put, nm1, nm2, nm3])
       generalize ((((w1.setCell ⟨b237, 0, none⟩ (.slice o240a n240a c240a)).setCell ⟨b237, 1, none⟩ (.slice o240b n240b c240b)).setCell ⟨b237, 2, none⟩ (.slice o240c n240c c240c)).setCell ⟨b237, 3, none⟩ (.slice o240d n240d c240d)) = w2 at *
       refine wpAnyH_done (by kernel_rfl) ?_ _
       refine NoPanic.normal ?_
       have HF := Lib.hid HB.out.2.2.2
       clear hHeld HMK HB
       go_wp2_with fail
       go_meet
       exact ⟨_, _, _, _, _, _, _, _, _, _, rfl, rfl, HF⟩
     case p9_226 =>
      have N244 := Lib.hid N224.out.box1
      clear N224
      go_simp
      refine hK.out _ _ ?s_245 (fun hHeld => ?_)
      case s_245 => exact HMK.out _ N244.out.hU
      clear hK KK
      (try simp only [Act.put, nm1, nm2, nm3])
      generalize w224.alloc (.cells #[.slice none 0 0, .slice none 0 0, .slice none 0 0, .slice none 0 0] 57) = w244 at *
      generalize w224.heap.size = b244 at *
      refine wpAnyH_one (i := 5) (by kernel_rfl) rfl (fun KK hK => ?_)
      go_simp
      refine (HNEW.out _ _ _ _ _ _ _ _ _ _ N244.out).mono ?_
      rintro e w247 ⟨d247, rfl, N247⟩
      clear N244
      go_simp
      refine hK.out _ _ ?s_248 (fun hHeld => ?_)
      case s_248 => exact HMK.out _ N247.out.hU
      clear hK KK
      (try simp only [Act.put, nm1, nm2, nm3])
      refine wpAnyH_one (i := 7) (by kernel_rfl) rfl (fun KK hK => ?_)
      go_simp
      refine (HPOL.out _ _ _ _ _ _ _ _ _ _ N247.out).mono ?_
      rintro e w250 ⟨o250a, n250a, c250a, o250b, n250b, c250b, o250c, n250c, c250c, o250d, n250d, c250d, rfl, N250⟩
      clear N247
      go_simp
      refine hK.out _ _ ?s_251 (fun hHeld => ?_)
      case s_251 => exact HMK.out _ N250.out.hU
      clear hK KK
      (try simp only [Act.put, nm1, nm2, nm3])
      have HB := Lib.hid (N250.out.both (ba := b218) (bb := b244) (.inr rfl))
      clear N250
      obtain ⟨p0, q0, p1, q1, p2, q2, p3, q3⟩ := cf4 HB.out.1
      refine wpAnyH_one (i := 10) (by kernel_rfl) rfl (fun KK hK => ?_)
      go_simp
      refine hK.out _ _ ?s_253 (fun hHeld => ?_)
      case s_253 => exact HMK.out _ HB.out.2.2.1
      clear hK KK p0 q0 p1 q1 p2 q2 p3 q3
      (try simp only [Act.put, nm1, nm2, nm3])
      generalize ((((w250.setCell ⟨b218, 0, none⟩ (.slice o224a n224a c224a)).setCell ⟨b218, 1, none⟩ (.slice o224b n224b c224b)).setCell ⟨b218, 2, none⟩ (.slice o224c n224c c224c)).setCell ⟨b218, 3, none⟩ (.slice o224d n224d c224d)) = w1 at *
      obtain ⟨p0, q0, p1, q1, p2, q2, p3, q3⟩ := cf4 HB.out.2.1
      refine wpAnyH_one (i := 11) (by kernel_rfl) rfl (fun KK hK => ?_)
      go_simp
      refine hK.out _ _ ?z_253 (fun hHeld => ?_)
      case z_253 => exact HMK.out _ HB.out.2.2.2.hU
      clear hK KK p0 q0 p1 q1 p2 q2 p3 q3
      (try simp only [Act.put, nm1, nm2, nm3])
      generalize ((((w1.setCell ⟨b244, 0, none⟩ (.slice o250a n250a c250a)).setCell ⟨b244, 1, none⟩ (.slice o250b n250b c250b)).setCell ⟨b244, 2, none⟩ (.slice o250c n250c c250c)).setCell ⟨b244, 3, none⟩ (.slice o250d n250d c250d)) = w2 at *
      refine wpAnyH_done (by kernel_rfl) ?_ _
      refine NoPanic.normal ?_
      have HF := Lib.hid HB.out.2.2.2
      clear hHeld HMK HB
      go_wp2_with fail
      go_meet
      exact ⟨_, _, _, _, _, _, _, _, _, _, rfl, rfl, HF⟩
    case p9_223 =>
     have N254 := Lib.hid N221.out.box1
     clear N221
     go_simp
     refine hK.out _ _ ?s_255 (fun hHeld => ?_)
     case s_255 => exact HMK.out _ N254.out.hU
     clear hK KK
     (try simp only [Act.put, nm1, nm2, nm3])
     generalize w221.alloc (.cells #[.slice none 0 0, .slice none 0 0, .slice none 0 0, .slice none 0 0] 57) = w254 at *
     generalize w221.heap.size = b254 at *
     refine wpAnyH_one (i := 3) (by kernel_rfl) rfl (fun KK hK => ?_)
     go_simp
     refine (HPOL.out _ _ _ _ _ _ _ _ _ _ N254.out).mono ?_
     rintro e w257 ⟨o257a, n257a, c257a, o257b, n257b, c257b, o257c, n257c, c257c, o257d, n257d, c257d, rfl, N257⟩
     clear N254
     go_simp
     refine hK.out _ _ ?s_258 (fun hHeld => ?_)
     case s_258 => exact HMK.out _ N257.out.hU
     clear hK KK
     (try simp only [Act.put, nm1, nm2, nm3])
     refine wpAnyH_one (i := 5) (by kernel_rfl) rfl (fun KK hK => ?_)
     go_simp
     refine (HNEW.out _ _ _ _ _ _ _ _ _ _ N257.out).mono ?_
     rintro e w260 ⟨d260, rfl, N260⟩
     clear N257
     go_simp
     refine hK.out _ _ ?s_261 (fun hHeld => ?_)
     case s_261 => exact HMK.out _ N260.out.hU
     clear hK KK
     (try simp only [Act.put, nm1, nm2, nm3])
     refine wpAnyH_one (i := 7) (by kernel_rfl) rfl (fun KK hK => ?_)
     go_simp
     refine (HPOL.out _ _ _ _ _ _ _ _ _ _ N260.out).mono ?_
     rintro e w263 ⟨o263a, n263a, c263a, o263b, n263b, c263b, o263c, n263c, c263c, o263d, n263d, c263d, rfl, N263⟩
     clear N260
     go_simp
     refine hK.out _ _ ?s_264 (fun hHeld => ?_)
     case s_264 => exact HMK.out _ N263.out.hU
     clear hK KK
     (try simp only [Act.put, nm1, nm2, nm3])
     have HB := Lib.hid (N263.out.both (ba := b218) (bb := b254) (.inr rfl))
     clear N263
     obtain ⟨p0, q0, p1, q1, p2, q2, p3, q3⟩ := cf4 HB.out.1
     refine wpAnyH_one (i := 10) (by kernel_rfl) rfl (fun KK hK => ?_)
     go_simp
     refine hK.out _ _ ?s_266 (fun hHeld => ?_)
     case s_266 => exact HMK.out _ HB.out.2.2.1
     clear hK KK p0 q0 p1 q1 p2 q2 p3 q3
     (try simp only [Act.put, nm1, nm2, nm3])
     generalize ((((w263.setCell ⟨b218, 0, none⟩ (.slice o257a n257a c257a)).setCell ⟨b218, 1, none⟩ (.slice o257b n257b c257b)).setCell ⟨b218, 2, none⟩ (.slice o257c n257c c257c)).setCell ⟨b218, 3, none⟩ (.slice o257d n257d c257d)) = w1 at *
     obtain ⟨p0, q0, p1, q1, p2, q2, p3, q3⟩ := cf4 HB.out.2.1
     refine wpAnyH_one (i := 11) (by kernel_rfl) rfl (fun KK hK => ?_)
     go_simp
     refine hK.out _ _ ?z_266 (fun hHeld => ?_)
     case z_266 => exact HMK.out _ HB.out.2.2.2.hU
     clear hK KK p0 q0 p1 q1 p2 q2 p3 q3
     (try simp only [Act.put, nm1, nm2, nm3])
     generalize ((((w1.setCell ⟨b254, 0, none⟩ (.slice o263a n263a c263a)).setCell ⟨b254, 1, none⟩ (.slice o263b n263b c263b)).setCell ⟨b254, 2, none⟩ (.slice o263c n263c c263c)).setCell ⟨b254, 3, none⟩ (.slice o263d n263d c263d)) = w2 at *
     refine wpAnyH_done (by kernel_rfl) ?_ _
     refine NoPanic.normal ?_
     have HF := Lib.hid HB.out.2.2.2
     clear hHeld HMK HB
     go_wp2_with fail
     go_meet
     exact ⟨_, _, _, _, _, _, _, _, _, _, rfl, rfl, HF⟩
   case p9_220 =>
    have N267 := Lib.hid N218.out.box1
    clear N218
    go_simp
    refine hK.out _ _ ?s_268 (fun hHeld => ?_)
    case s_268 => exact HMK.out _ N267.out.hU
    clear hK KK
    (try simp only [Act.put, nm1, nm2, nm3])
    generalize w218.alloc (.cells #[.slice none 0 0, .slice none 0 0, .slice none 0 0, .slice none 0 0] 57) = w267 at *
    generalize w218.heap.size = b267 at *
    refine wpAnyH_one (i := 1) (by kernel_rfl) rfl (fun KK hK => ?_)
    go_simp
    refine (HNEW.out _ _ _ _ _ _ _ _ _ _ N267.out).mono ?_
    rintro e w270 ⟨d270, rfl, N270⟩
    clear N267
    go_simp
    refine hK.out _ _ ?s_271 (fun hHeld => ?_)
    case s_271 => exact HMK.out _ N270.out.hU
    clear hK KK
    (try simp only [Act.put, nm1, nm2, nm3])
    refine wpAnyH_one (i := 3) (by kernel_rfl) rfl (fun KK hK => ?_)
    go_simp
    refine (HPOL.out _ _ _ _ _ _ _ _ _ _ N270.out).mono ?_
    rintro e w273 ⟨o273a, n273a, c273a, o273b, n273b, c273b, o273c, n273c, c273c, o273d, n273d, c273d, rfl, N273⟩
    clear N270
    go_simp
    refine hK.out _ _ ?s_274 (fun hHeld => ?_)
    case s_274 => exact HMK.out _ N273.out.hU
    clear hK KK
    (try simp only [Act.put, nm1, nm2, nm3])
    refine wpAnyH_one (i := 5) (by kernel_rfl) rfl (fun KK hK => ?_)
    go_simp
    refine (HNEW.out _ _ _ _ _ _ _ _ _ _ N273.out).mono ?_
    rintro e w276 ⟨d276, rfl, N276⟩
    clear N273
    go_simp
    refine hK.out _ _ ?s_277 (fun hHeld => ?_)
    case s_277 => exact HMK.out _ N276.out.hU
    clear hK KK
    (try simp only [Act.put, nm1, nm2, nm3])
    refine wpAnyH_one (i := 7) (by kernel_rfl) rfl (fun KK hK => ?_)
    go_simp
    refine (HPOL.out _ _ _ _ _ _ _ _ _ _ N276.out).mono ?_
    rintro e w279 ⟨o279a, n279a, c279a, o279b, n279b, c279b, o279c, n279c, c279c, o279d, n279d, c279d, rfl, N279⟩
    clear N276
    go_simp
    refine hK.out _ _ ?s_280 (fun hHeld => ?_)
    case s_280 => exact HMK.out _ N279.out.hU
    clear hK KK
    (try simp only [Act.put, nm1, nm2, nm3])
    have HB := Lib.hid (N279.out.both (ba := b218) (bb := b267) (.inr rfl))
    clear N279
    obtain ⟨p0, q0, p1, q1, p2, q2, p3, q3⟩ := cf4 HB.out.1
    refine wpAnyH_one (i := 10) (by kernel_rfl) rfl (fun KK hK => ?_)
    go_simp
    refine hK.out _ _ ?s_282 (fun hHeld => ?_)
    case s_282 => exact HMK.out _ HB.out.2.2.1
    clear hK KK p0 q0 p1 q1 p2 q2 p3 q3
    (try simp only [Act.put, nm1, nm2, nm3])
    generalize ((((w279.setCell ⟨b218, 0, none⟩ (.slice o273a n273a c273a)).setCell ⟨b218, 1, none⟩ (.slice o273b n273b c273b)).setCell ⟨b218, 2, none⟩ (.slice o273c n273c c273c)).setCell ⟨b218, 3, none⟩ (.slice o273d n273d c273d)) = w1 at *
    obtain ⟨p0, q0, p1, q1, p2, q2, p3, q3⟩ := cf4 HB.out.2.1
    refine wpAnyH_one (i := 11) (by kernel_rfl) rfl (fun KK hK => ?_)
    go_simp
    refine hK.out _ _ ?z_282 (fun hHeld => ?_)
    case z_282 => exact HMK.out _ HB.out.2.2.2.hU
    clear hK KK p0 q0 p1 q1 p2 q2 p3 q3
    (try simp only [Act.put, nm1, nm2, nm3])
    generalize ((((w1.setCell ⟨b267, 0, none⟩ (.slice o279a n279a c279a)).setCell ⟨b267, 1, none⟩ (.slice o279b n279b c279b)).setCell ⟨b267, 2, none⟩ (.slice o279c n279c c279c)).setCell ⟨b267, 3, none⟩ (.slice o279d n279d c279d)) = w2 at *
    refine wpAnyH_done (by kernel_rfl) ?_ _
    refine NoPanic.normal ?_
    have HF := Lib.hid HB.out.2.2.2
    clear hHeld HMK HB
    go_wp2_with fail
    go_meet
    exact ⟨_, _, _, _, _, _, _, _, _, _, rfl, rfl, HF⟩
  case p9_5 =>
   have N283 := Lib.hid HND.out.box1
   clear HND
   go_simp
   refine hK.out _ _ ?s_284 (fun hHeld => ?_)
   case s_284 => exact HMK.out _ N283.out.hU
   clear hK KK
   (try simp only [Act.put, nm1, nm2, nm3])
   generalize wd.alloc (.cells #[.slice none 0 0, .slice none 0 0, .slice none 0 0, .slice none 0 0] 57) = w283 at *
   generalize wd.heap.size = b283 at *
   refine wpAnyH_two (i := 1) (j := 8) (by kernel_rfl) rfl rfl (fun KK hK => ?p1_285) (fun KK hK => ?p8_285)
   case p1_285 =>
    go_simp
    refine (HNEW.out _ _ _ _ _ _ _ _ _ _ N283.out).mono ?_
    rintro e w286 ⟨d286, rfl, N286⟩
    clear N283
    go_simp
    refine hK.out _ _ ?s_287 (fun hHeld => ?_)
    case s_287 => exact HMK.out _ N286.out.hU
    clear hK KK
    (try simp only [Act.put, nm1, nm2, nm3])
    refine wpAnyH_two (i := 3) (j := 8) (by kernel_rfl) rfl rfl (fun KK hK => ?p3_288) (fun KK hK => ?p8_288)
    case p3_288 =>
     go_simp
     refine (HPOL.out _ _ _ _ _ _ _ _ _ _ N286.out).mono ?_
     rintro e w289 ⟨o289a, n289a, c289a, o289b, n289b, c289b, o289c, n289c, c289c, o289d, n289d, c289d, rfl, N289⟩
     clear N286
     go_simp
     refine hK.out _ _ ?s_290 (fun hHeld => ?_)
     case s_290 => exact HMK.out _ N289.out.hU
     clear hK KK
     (try simp only [Act.put, nm1, nm2, nm3])
     refine wpAnyH_two (i := 5) (j := 8) (by kernel_rfl) rfl rfl (fun KK hK => ?p5_291) (fun KK hK => ?p8_291)
     case p5_291 =>
      go_simp
      refine (HNEW.out _ _ _ _ _ _ _ _ _ _ N289.out).mono ?_
      rintro e w292 ⟨d292, rfl, N292⟩
      clear N289
      go_simp
      refine hK.out _ _ ?s_293 (fun hHeld => ?_)
      case s_293 => exact HMK.out _ N292.out.hU
      clear hK KK
      (try simp only [Act.put, nm1, nm2, nm3])
      refine wpAnyH_two (i := 7) (j := 8) (by kernel_rfl) rfl rfl (fun KK hK => ?p7_294) (fun KK hK => ?p8_294)
      case p7_294 =>
       go_simp
       refine (HPOL.out _ _ _ _ _ _ _ _ _ _ N292.out).mono ?_
       rintro e w295 ⟨o295a, n295a, c295a, o295b, n295b, c295b, o295c, n295c, c295c, o295d, n295d, c295d, rfl, N295⟩
       clear N292
       go_simp
       refine hK.out _ _ ?s_296 (fun hHeld => ?_)
       case s_296 => exact HMK.out _ N295.out.hU
       clear hK KK
       (try simp only [Act.put, nm1, nm2, nm3])
       refine wpAnyH_one (i := 8) (by kernel_rfl) rfl (fun KK hK => ?_)
       have N298 := Lib.hid N295.out.box1
       clear N295
       go_simp
       refine hK.out _ _ ?s_299 (fun hHeld => ?_)
       case s_299 => exact HMK.out _ N298.out.hU
       clear hK KK
       (try simp only [Act.put, nm1, nm2, nm3])
       generalize w295.alloc (.cells #[.slice none 0 0, .slice none 0 0, .slice none 0 0, .slice none 0 0] 57) = w298 at *
       generalize w295.heap.size = b298 at *
       have HB := Lib.hid (N298.out.both (ba := b298) (bb := b283) (.inl rfl))
       clear N298
       obtain ⟨p0, q0, p1, q1, p2, q2, p3, q3⟩ := cf4 HB.out.1
       refine wpAnyH_one (i := 10) (by kernel_rfl) rfl (fun KK hK => ?_)
       go_simp
       refine hK.out _ _ ?s_301 (fun hHeld => ?_)
       case s_301 => exact HMK.out _ HB.out.2.2.1
       clear hK KK p0 q0 p1 q1 p2 q2 p3 q3
       (try simp only [Act.put, nm1, nm2, nm3])
       generalize ((((w298.setCell ⟨b298, 0, none⟩ (.slice o289a n289a c289a)).setCell ⟨b298, 1, none⟩ (.slice o289b n289b c289b)).setCell ⟨b298, 2, none⟩ (.slice o289c n289c c289c)).setCell ⟨b298, 3, none⟩ (.slice o289d n289d c289d)) = w1 at *
       obtain ⟨p0, q0, p1, q1, p2, q2, p3, q3⟩ := cf4 HB.out.2.1
       refine wpAnyH_one (i := 11) (by kernel_rfl) rfl (fun KK hK => ?_)
       go_simp
       refine hK.out _ _ ?z_301 (fun hHeld => ?_)
       case z_301 => exact HMK.out _ HB.out.2.2.2.hU
       clear hK KK p0 q0 p1 q1 p2 q2 p3 q3
       (try simp only [Act.put, nm1, nm2, nm3])
       generalize ((((w1.setCell ⟨b283, 0, none⟩ (.slice o295a n295a c295a)).setCell ⟨b283, 1, none⟩ (.slice o295b n295b c295b)).setCell ⟨b283, 2, none⟩ (.slice o295c n295c c295c)).setCell ⟨b283, 3, none⟩ (.slice o295d n295d c295d)) = w2 at *
       refine wpAnyH_done (by kernel_rfl) ?_ _
       refine NoPanic.normal ?_
       have HF := Lib.hid HB.out.2.2.2
       clear hHeld HMK HB
       go_wp2_with fail
       go_meet
       exact ⟨_, _, _, _, _, _, _, _, _, _, rfl, rfl, HF⟩
      case p8_294 =>
       have N302 := Lib.hid N292.out.box1
       clear N292
       go_simp
       refine hK.out _ _ ?s_303 (fun hHeld => ?_)
       case s_303 => exact HMK.out _ N302.out.hU
       clear hK KK
       (try simp only [Act.put, nm1, nm2, nm3])
       generalize w292.alloc (.cells #[.slice none 0 0, .slice none 0 0, .slice none 0 0, .slice none 0 0] 57) = w302 at *
       generalize w292.heap.size = b302 at *
       refine wpAnyH_one (i := 7) (by kernel_rfl) rfl (fun KK hK => ?_)
       go_simp
       refine (HPOL.out _ _ _ _ _ _ _ _ _ _ N302.out).mono ?_
       rintro e w305 ⟨o305a, n305a, c305a, o305b, n305b, c305b, o305c, n305c, c305c, o305d, n305d, c305d, rfl, N305⟩
       clear N302
       go_simp
       refine hK.out _ _ ?s_306 (fun hHeld => ?_)
       case s_306 => exact HMK.out _ N305.out.hU
       clear hK KK
       (try simp only [Act.put, nm1, nm2, nm3])
       have HB := Lib.hid (N305.out.both (ba := b302) (bb := b283) (.inl rfl))
       clear N305
       obtain ⟨p0, q0, p1, q1, p2, q2, p3, q3⟩ := cf4 HB.out.1
       refine wpAnyH_one (i := 10) (by kernel_rfl) rfl (fun KK hK => ?_)
       go_simp
       refine hK.out _ _ ?s_308 (fun hHeld => ?_)
       case s_308 => exact HMK.out _ HB.out.2.2.1
       clear hK KK p0 q0 p1 q1 p2 q2 p3 q3
       (try simp only [Act.put, nm1, nm2, nm3])
       generalize ((((w305.setCell ⟨b302, 0, none⟩ (.slice o289a n289a c289a)).setCell ⟨b302, 1, none⟩ (.slice o289b n289b c289b)).setCell ⟨b302, 2, none⟩ (.slice o289c n289c c289c)).setCell ⟨b302, 3, none⟩ (.slice o289d n289d c289d)) = w1 at *
       obtain ⟨p0, q0, p1, q1, p2, q2, p3, q3⟩ := cf4 HB.out.2.1
       refine wpAnyH_one (i := 11) (by kernel_rfl) rfl (fun KK hK => ?_)
       go_simp
       refine hK.out _ _ ?z_308 (fun hHeld => ?_)
       case z_308 => exact HMK.out _ HB.out.2.2.2.hU
       clear hK KK p0 q0 p1 q1 p2 q2 p3 q3
       (try simp only [Act.put, nm1, nm2, nm3])
       generalize ((((w1.setCell ⟨b283, 0, none⟩ (.slice o305a n305a c305a)).setCell ⟨b283, 1, none⟩ (.slice o305b n305b c305b)).setCell ⟨b283, 2, none⟩ (.slice o305c n305c c305c)).setCell ⟨b283, 3, none⟩ (.slice o305d n305d c305d)) = w2 at *
       refine wpAnyH_done (by kernel_rfl) ?_ _
       refine NoPanic.normal ?_
       have HF := Lib.hid HB.out.2.2.2
       clear hHeld HMK HB
       go_wp2_with fail
       go_meet
       exact ⟨_, _, _, _, _, _, _, _, _, _, rfl, rfl, HF⟩
     case p8_291 =>
      have N309 := Lib.hid N289.out.box1
      clear N289
      go_simp
      refine hK.out _ _ ?s_310 (fun hHeld => ?_)
      case s_310 => exact HMK.out _ N309.out.hU
      clear hK KK
      (try simp only [Act.put, nm1, nm2, nm3])
      generalize w289.alloc (.cells #[.slice none 0 0, .slice none 0 0, .slice none 0 0, .slice none 0 0] 57) = w309 at *
      generalize w289.heap.size = b309 at *
      refine wpAnyH_one (i := 5) (by kernel_rfl) rfl (fun KK hK => ?_)
      go_simp
      refine (HNEW.out _ _ _ _ _ _ _ _ _ _ N309.out).mono ?_
      rintro e w312 ⟨d312, rfl, N312⟩
      clear N309
      go_simp
      refine hK.out _ _ ?s_313 (fun hHeld => ?_)
      case s_313 => exact HMK.out _ N312.out.hU
      clear hK KK
      (try simp only [Act.put, nm1, nm2, nm3])
      refine wpAnyH_one (i := 7) (by kernel_rfl) rfl (fun KK hK => ?_)
      go_simp
      refine (HPOL.out _ _ _ _ _ _ _ _ _ _ N312.out).mono ?_
      rintro e w315 ⟨o315a, n315a, c315a, o315b, n315b, c315b, o315c, n315c, c315c, o315d, n315d, c315d, rfl, N315⟩
      clear N312
      go_simp
      refine hK.out _ _ ?s_316 (fun hHeld => ?_)
      case s_316 => exact HMK.out _ N315.out.hU
      clear hK KK
      (try simp only [Act.put, nm1, nm2, nm3])
      have HB := Lib.hid (N315.out.both (ba := b309) (bb := b283) (.inl rfl))
      clear N315
      obtain ⟨p0, q0, p1, q1, p2, q2, p3, q3⟩ := cf4 HB.out.1
      refine wpAnyH_one (i := 10) (by kernel_rfl) rfl (fun KK hK => ?_)
      go_simp
      refine hK.out _ _ ?s_318 (fun hHeld => ?_)
      case s_318 => exact HMK.out _ HB.out.2.2.1
      clear hK KK p0 q0 p1 q1 p2 q2 p3 q3
      (try simp only [Act.put, nm1, nm2, nm3])
      generalize ((((w315.setCell ⟨b309, 0, none⟩ (.slice o289a n289a c289a)).setCell ⟨b309, 1, none⟩ (.slice o289b n289b c289b)).setCell ⟨b309, 2, none⟩ (.slice o289c n289c c289c)).setCell ⟨b309, 3, none⟩ (.slice o289d n289d c289d)) = w1 at *
      obtain ⟨p0, q0, p1, q1, p2, q2, p3, q3⟩ := cf4 HB.out.2.1
      refine wpAnyH_one (i := 11) (by kernel_rfl) rfl (fun KK hK => ?_)
      go_simp
      refine hK.out _ _ ?z_318 (fun hHeld => ?_)
      case z_318 => exact HMK.out _ HB.out.2.2.2.hU
      clear hK KK p0 q0 p1 q1 p2 q2 p3 q3
      (try simp only [Act.put, nm1, nm2, nm3])
      generalize ((((w1.setCell ⟨b283, 0, none⟩ (.slice o315a n315a c315a)).setCell ⟨b283, 1, none⟩ (.slice o315b n315b c315b)).setCell ⟨b283, 2, none⟩ (.slice o315c n315c c315c)).setCell ⟨b283, 3, none⟩ (.slice o315d n315d c315d)) = w2 at *
      refine wpAnyH_done (by kernel_rfl) ?_ _
      refine NoPanic.normal ?_
      have HF := Lib.hid HB.out.2.2.2
      clear hHeld HMK HB
      go_wp2_with fail
      go_meet
      exact ⟨_, _, _, _, _, _, _, _, _, _, rfl, rfl, HF⟩
    case p8_288 =>
     have N319 := Lib.hid N286.out.box1
     clear N286
     go_simp
     refine hK.out _ _ ?s_320 (fun hHeld => ?_)
     case s_320 => exact HMK.out _ N319.out.hU
     clear hK KK
     (try simp only [Act.put, nm1, nm2, nm3])
     generalize w286.alloc (.cells #[.slice none 0 0, .slice none 0 0, .slice none 0 0, .slice none 0 0] 57) = w319 at *
     generalize w286.heap.size = b319 at *
     refine wpAnyH_one (i := 3) (by kernel_rfl) rfl (fun KK hK => ?_)
     go_simp
     refine (HPOL.out _ _ _ _ _ _ _ _ _ _ N319.out).mono ?_
     rintro e w322 ⟨o322a, n322a, c322a, o322b, n322b, c322b, o322c, n322c, c322c, o322d, n322d, c322d, rfl, N322⟩
     clear N319
     go_simp
     refine hK.out _ _ ?s_323 (fun hHeld => ?_)
     case s_323 => exact HMK.out _ N322.out.hU
     clear hK KK
     (try simp only [Act.put, nm1, nm2, nm3])
     refine wpAnyH_one (i := 5) (by kernel_rfl) rfl (fun KK hK => ?_)
     go_simp
     refine (HNEW.out _ _ _ _ _ _ _ _ _ _ N322.out).mono ?_
     rintro e w325 ⟨d325, rfl, N325⟩
     clear N322
     go_simp
     refine hK.out _ _ ?s_326 (fun hHeld => ?_)
     case s_326 => exact HMK.out _ N325.out.hU
     clear hK KK
     (try simp only [Act.put, nm1, nm2, nm3])
     refine wpAnyH_one (i := 7) (by kernel_rfl) rfl (fun KK hK => ?_)
     go_simp
     refine (HPOL.out _ _ _ _ _ _ _ _ _ _ N325.out).mono ?_
     rintro e w328 ⟨o328a, n328a, c328a, o328b, n328b, c328b, o328c, n328c, c328c, o328d, n328d, c328d, rfl, N328⟩
     clear N325
     go_simp
     refine hK.out _ _ ?s_329 (fun hHeld => ?_)
     case s_329 => exact HMK.out _ N328.out.hU
     clear hK KK
     (try simp only [Act.put, nm1, nm2, nm3])
     have HB := Lib.hid (N328.out.both (ba := b319) (bb := b283) (.inl rfl))
     clear N328
     obtain ⟨p0, q0, p1, q1, p2, q2, p3, q3⟩ := cf4 HB.out.1
     refine wpAnyH_one (i := 10) (by kernel_rfl) rfl (fun KK hK => ?_)
     go_simp
     refine hK.out _ _ ?s_331 (fun hHeld => ?_)
     case s_331 => exact HMK.out _ HB.out.2.2.1
     clear hK KK p0 q0 p1 q1 p2 q2 p3 q3
     (try simp only [Act.put, nm1, nm2, nm3])
     generalize ((((w328.setCell ⟨b319, 0, none⟩ (.slice o322a n322a c322a)).setCell ⟨b319, 1, none⟩ (.slice o322b n322b c322b)).setCell ⟨b319, 2, none⟩ (.slice o322c n322c c322c)).setCell ⟨b319, 3, none⟩ (.slice o322d n322d c322d)) = w1 at *
     obtain ⟨p0, q0, p1, q1, p2, q2, p3, q3⟩ := cf4 HB.out.2.1
     refine wpAnyH_one (i := 11) (by kernel_rfl) rfl (fun KK hK => ?_)
     go_simp
     refine hK.out _ _ ?z_331 (fun hHeld => ?_)
     case z_331 => exact HMK.out _ HB.out.2.2.2.hU
     clear hK KK p0 q0 p1 q1 p2 q2 p3 q3
     (try simp only [Act.put, nm1, nm2, nm3])
     generalize ((((w1.setCell ⟨b283, 0, none⟩ (.slice o328a n328a c328a)).setCell ⟨b283, 1, none⟩ (.slice o328b n328b c328b)).setCell ⟨b283, 2, none⟩ (.slice o328c n328c c328c)).setCell ⟨b283, 3, none⟩ (.slice o328d n328d c328d)) = w2 at *
     refine wpAnyH_done (by kernel_rfl) ?_ _
     refine NoPanic.normal ?_
     have HF := Lib.hid HB.out.2.2.2
     clear hHeld HMK HB
     go_wp2_with fail
     go_meet
     exact ⟨_, _, _, _, _, _, _, _, _, _, rfl, rfl, HF⟩
   case p8_285 =>
    have N332 := Lib.hid N283.out.box1
    clear N283
    go_simp
    refine hK.out _ _ ?s_333 (fun hHeld => ?_)
    case s_333 => exact HMK.out _ N332.out.hU
    clear hK KK
    (try simp only [Act.put, nm1, nm2, nm3])
    generalize w283.alloc (.cells #[.slice none 0 0, .slice none 0 0, .slice none 0 0, .slice none 0 0] 57) = w332 at *
    generalize w283.heap.size = b332 at *
    refine wpAnyH_one (i := 1) (by kernel_rfl) rfl (fun KK hK => ?_)
    go_simp
    refine (HNEW.out _ _ _ _ _ _ _ _ _ _ N332.out).mono ?_
    rintro e w335 ⟨d335, rfl, N335⟩
    clear N332
    go_simp
    refine hK.out _ _ ?s_336 (fun hHeld => ?_)
    case s_336 => exact HMK.out _ N335.out.hU
    clear hK KK
    (try simp only [Act.put, nm1, nm2, nm3])
    refine wpAnyH_one (i := 3) (by kernel_rfl) rfl (fun KK hK => ?_)
    go_simp
    refine (HPOL.out _ _ _ _ _ _ _ _ _ _ N335.out).mono ?_
    rintro e w338 ⟨o338a, n338a, c338a, o338b, n338b, c338b, o338c, n338c, c338c, o338d, n338d, c338d, rfl, N338⟩
    clear N335
    go_simp
    refine hK.out _ _ ?s_339 (fun hHeld => ?_)
    case s_339 => exact HMK.out _ N338.out.hU
    clear hK KK
    (try simp only [Act.put, nm1, nm2, nm3])
    refine wpAnyH_one (i := 5) (by kernel_rfl) rfl (fun KK hK => ?_)
    go_simp
    refine (HNEW.out _ _ _ _ _ _ _ _ _ _ N338.out).mono ?_
    rintro e w341 ⟨d341, rfl, N341⟩
    clear N338
    go_simp
    refine hK.out _ _ ?s_342 (fun hHeld => ?_)
    case s_342 => exact HMK.out _ N341.out.hU
    clear hK KK
    (try simp only [Act.put, nm1, nm2, nm3])
    refine wpAnyH_one (i := 7) (by kernel_rfl) rfl (fun KK hK => ?_)
    go_simp
    refine (HPOL.out _ _ _ _ _ _ _ _ _ _ N341.out).mono ?_
    rintro e w344 ⟨o344a, n344a, c344a, o344b, n344b, c344b, o344c, n344c, c344c, o344d, n344d, c344d, rfl, N344⟩
    clear N341
    go_simp
    refine hK.out _ _ ?s_345 (fun hHeld => ?_)
    case s_345 => exact HMK.out _ N344.out.hU
    clear hK KK
    (try simp only [Act.put, nm1, nm2, nm3])
    have HB := Lib.hid (N344.out.both (ba := b332) (bb := b283) (.inl rfl))
    clear N344
    obtain ⟨p0, q0, p1, q1, p2, q2, p3, q3⟩ := cf4 HB.out.1
    refine wpAnyH_one (i := 10) (by kernel_rfl) rfl (fun KK hK => ?_)
    go_simp
    refine hK.out _ _ ?s_347 (fun hHeld => ?_)
    case s_347 => exact HMK.out _ HB.out.2.2.1
    clear hK KK p0 q0 p1 q1 p2 q2 p3 q3
    (try simp only [Act.put, nm1, nm2, nm3])
    generalize ((((w344.setCell ⟨b332, 0, none⟩ (.slice o338a n338a c338a)).setCell ⟨b332, 1, none⟩ (.slice o338b n338b c338b)).setCell ⟨b332, 2, none⟩ (.slice o338c n338c c338c)).setCell ⟨b332, 3, none⟩ (.slice o338d n338d c338d)) = w1 at *
    obtain ⟨p0, q0, p1, q1, p2, q2, p3, q3⟩ := cf4 HB.out.2.1
    refine wpAnyH_one (i := 11) (by kernel_rfl) rfl (fun KK hK => ?_)
    go_simp
    refine hK.out _ _ ?z_347 (fun hHeld => ?_)
    case z_347 => exact HMK.out _ HB.out.2.2.2.hU
    clear hK KK p0 q0 p1 q1 p2 q2 p3 q3
    (try simp only [Act.put, nm1, nm2, nm3])
    generalize ((((w1.setCell ⟨b283, 0, none⟩ (.slice o344a n344a c344a)).setCell ⟨b283, 1, none⟩ (.slice o344b n344b c344b)).setCell ⟨b283, 2, none⟩ (.slice o344c n344c c344c)).setCell ⟨b283, 3, none⟩ (.slice o344d n344d c344d)) = w2 at *
    refine wpAnyH_done (by kernel_rfl) ?_ _
    refine NoPanic.normal ?_
    have HF := Lib.hid HB.out.2.2.2
    clear hHeld HMK HB
    go_wp2_with fail
    go_meet
    exact ⟨_, _, _, _, _, _, _, _, _, _, rfl, rfl, HF⟩
 case rest =>
  obtain ⟨ba, bb, v0, v1, v2, v3, u0, u1, u2, u3, rfl, rfl, HF⟩ := hcut
  clear HN0 HPOL HNEW
  have hb := HPB.out
  have hfw := few_b hb
  have hl0 := hb.n0
  have hl3 := hb.n3
  have hp1 := prins_few hb
  have hp2 := names_few hb
  have HRT : Hid (∀ w, Keeps (fun _ => False) wc w → Calls Tryz.prog 22 #[.agg #[v0, v1, v2, v3]] w fun e W' => e = .returned (.bool true) ∧ Hid (Keeps (fun _ => False) w W')) := fun w hk => rpolright_yes (HF.out.pa.into hk (fun _ _ _ x => x) (fun _ _ x => x)) hb
  have HSM : Hid (∀ w, Keeps (fun _ => False) wc w → Calls Tryz.prog 19 #[.agg #[v0, v1, v2, v3], .agg #[u0, u1, u2, u3]] w fun e W' => e = .returned (.bool true) ∧ Hid (Keeps (fun _ => False) w W')) := fun w hk => polsame_spec (HF.out.pa.into hk (fun _ _ _ x => x) (fun _ _ x => x)) (HF.out.pb.into hk (fun _ _ _ x => x) (fun _ _ x => x)) (Nat.le_trans hfw.1 (by decide)) (Nat.le_trans hfw.2.1 (by decide)) (Nat.le_trans hfw.2.2.1 (by decide)) (Nat.le_trans hfw.2.2.2.1 (by decide)) (fun q hq => Nat.le_trans (hfw.2.2.2.2 q hq) (by decide))
  have HPR : Hid (∀ w, Keeps (fun _ => False) wc w → Calls Tryz.prog 23 #[.agg #[v0, v1, v2, v3]] w fun e W' => ∃ ao cap, e = .returned (.slice ao (tabL (prinsA pp)).length cap) ∧ Hid (Keeps (fun _ => False) w W')) := fun w hk => rprins_spec (HF.out.pa.into hk (fun _ _ _ x => x) (fun _ _ x => x)) hfw
  have HNM : Hid (∀ w, Keeps (fun _ => False) wc w → Calls Tryz.prog 24 #[.agg #[v0, v1, v2, v3]] w fun e W' => ∃ ao cap, e = .returned (.slice ao (tabL (namesA pp)).length cap) ∧ Hid (Keeps (fun _ => False) w W')) := fun w hk => rnames_spec (HF.out.pa.into hk (fun _ _ _ x => x) (fun _ _ x => x)) hfw
  obtain ⟨nP, hnP⟩ : ∃ q, (tabL (prinsA pp)).length = q := ⟨_, rfl⟩
  obtain ⟨nN, hnN⟩ : ∃ q, (tabL (namesA pp)).length = q := ⟨_, rfl⟩
  rw [hnP] at hp1 HPR
  rw [hnN] at hp2 HNM
  obtain ⟨lv, hlv, h3r, h3q⟩ := HF.out.pa.2.2.2
  obtain ⟨ao0, cp0, hv0, hle0, hr0⟩ := id HF.out.pa.1.1.1
  obtain ⟨ao3, cp3, hv3, hle3, hr3⟩ := id h3r.1.1
  have HA := Lib.hid HF.out.ha
  have HB := Lib.hid HF.out.hb
  have HSS := Lib.hid HF.out.hS
  have HUU := Lib.hid HF.out.hU
  have HKW := Lib.hid HF.out.K
  clear hr0 hr3 h3r h3q hb hfw hnP hnN hle0 hle3 HPB HF
  subst hv0 hv3
  rw [hlv] at HA HRT HSM HPR HNM
  obtain ⟨n0, hn0⟩ : ∃ n, pp.1.length = n := ⟨_, rfl⟩
  obtain ⟨n3, hn3⟩ : ∃ n, pp.2.2.2.length = n := ⟨_, rfl⟩
  rw [hn0, hn3] at HA HRT HSM HPR HNM
  rw [hn0] at hl0
  rw [hn3] at hl3
  clear hn0 hn3 hlv
  have k0 : ¬ s.stmts < (n0 : Int) := by omega
  have k3 : (n3 : Int) = s.asks := by omega
  have kp : ¬ s.prins < (nP : Int) := by omega
  have kn : ¬ s.links < (nN : Int) := by omega
  clear hl0 hl3 hp1 hp2
  have HKC : Hid (Keeps (fun _ => False) wc wc) := Keeps.refl _ _
  go_upto_region 5 with fail
  have HMK10 : Hid (∀ w' : World, w'.heap[ba]? = some (.cells #[.slice ao0 n0 cp0, v1, v2, .slice ao3 n3 cp3] 57) → w'.heap[bb]? = some (.cells #[u0, u1, u2, u3] 57) → w'.heap[SB]? = some (.cells #[.int .i64 s.prins, .int .i64 s.links, .int .i64 s.stmts, .int .i64 s.grow, .int .i64 s.shrink, .int .i64 s.asks] 24) → w'.cell? ⟨ba, 0, none⟩ = some (.slice ao0 n0 cp0) ∧ w'.cell? ⟨ba, 1, none⟩ = some (v1) ∧ w'.cell? ⟨ba, 2, none⟩ = some (v2) ∧ w'.cell? ⟨ba, 3, none⟩ = some (.slice ao3 n3 cp3) ∧ w'.cell? ⟨bb, 0, none⟩ = some (u0) ∧ w'.cell? ⟨bb, 1, none⟩ = some (u1) ∧ w'.cell? ⟨bb, 2, none⟩ = some (u2) ∧ w'.cell? ⟨bb, 3, none⟩ = some (u3) ∧ w'.cell? ⟨SB, 0, none⟩ = some (.int .i64 s.prins) ∧ w'.cell? ⟨SB, 1, none⟩ = some (.int .i64 s.links) ∧ w'.cell? ⟨SB, 2, none⟩ = some (.int .i64 s.stmts) ∧ w'.cell? ⟨SB, 3, none⟩ = some (.int .i64 s.grow) ∧ w'.cell? ⟨SB, 4, none⟩ = some (.int .i64 s.shrink) ∧ w'.cell? ⟨SB, 5, none⟩ = some (.int .i64 s.asks) ∧ Hid (w'.heap[ba]? = some (.cells #[.slice ao0 n0 cp0, v1, v2, .slice ao3 n3 cp3] 57) ∧ w'.heap[bb]? = some (.cells #[u0, u1, u2, u3] 57) ∧ w'.heap[SB]? = some (.cells #[.int .i64 s.prins, .int .i64 s.links, .int .i64 s.stmts, .int .i64 s.grow, .int .i64 s.shrink, .int .i64 s.asks] 24))) := fun w' h0 h1 h2 => ⟨(by rw [cell_of_heap h0]; rfl), (by rw [cell_of_heap h0]; rfl), (by rw [cell_of_heap h0]; rfl), (by rw [cell_of_heap h0]; rfl), (by rw [cell_of_heap h1]; rfl), (by rw [cell_of_heap h1]; rfl), (by rw [cell_of_heap h1]; rfl), (by rw [cell_of_heap h1]; rfl), (by rw [cell_of_heap h2]; rfl), (by rw [cell_of_heap h2]; rfl), (by rw [cell_of_heap h2]; rfl), (by rw [cell_of_heap h2]; rfl), (by rw [cell_of_heap h2]; rfl), (by rw [cell_of_heap h2]; rfl), Lib.hid ⟨h0, h1, h2⟩⟩
  have hkd : Keeps (fun _ => False) wc wc.drew := (Keeps.refl _ _).drew
  have HA11 := Lib.hid (((hkd).block _ (lt_of_heap HA.out) (fun x => x)).trans HA.out)
  have HB12 := Lib.hid (((hkd).block _ (lt_of_heap HB.out) (fun x => x)).trans HB.out)
  have HS13 := Lib.hid (((hkd).block _ (lt_of_heap HSS.out) (fun x => x)).trans HSS.out)
  have HU14 := Lib.hid (((hkd).block _ (lt_of_heap HUU.out) (fun x => x)).trans HUU.out)
  have HK15 := Lib.hid (HKC.out.drew)
  have hS0 := HMK10.out wc.drew HA11.out HB12.out HS13.out
  clear hkd HA HB HSS HUU HKC
  refine wp_region_noPanic ?_
  refine wp_region_held_drew (S := (fun w' => w'.cell? ⟨ba, 0, none⟩ = some (.slice ao0 n0 cp0) ∧ w'.cell? ⟨ba, 1, none⟩ = some (v1) ∧ w'.cell? ⟨ba, 2, none⟩ = some (v2) ∧ w'.cell? ⟨ba, 3, none⟩ = some (.slice ao3 n3 cp3) ∧ w'.cell? ⟨bb, 0, none⟩ = some (u0) ∧ w'.cell? ⟨bb, 1, none⟩ = some (u1) ∧ w'.cell? ⟨bb, 2, none⟩ = some (u2) ∧ w'.cell? ⟨bb, 3, none⟩ = some (u3) ∧ w'.cell? ⟨SB, 0, none⟩ = some (.int .i64 s.prins) ∧ w'.cell? ⟨SB, 1, none⟩ = some (.int .i64 s.links) ∧ w'.cell? ⟨SB, 2, none⟩ = some (.int .i64 s.stmts) ∧ w'.cell? ⟨SB, 3, none⟩ = some (.int .i64 s.grow) ∧ w'.cell? ⟨SB, 4, none⟩ = some (.int .i64 s.shrink) ∧ w'.cell? ⟨SB, 5, none⟩ = some (.int .i64 s.asks) ∧ Hid (w'.heap[ba]? = some (.cells #[.slice ao0 n0 cp0, v1, v2, .slice ao3 n3 cp3] 57) ∧ w'.heap[bb]? = some (.cells #[u0, u1, u2, u3] 57) ∧ w'.heap[SB]? = some (.cells #[.int .i64 s.prins, .int .i64 s.links, .int .i64 s.stmts, .int .i64 s.grow, .int .i64 s.shrink, .int .i64 s.asks] 24)))) (by kernel_rfl) hS0 (fun hHeld => ?_)
  clear hS0
  generalize wc.drew = w16 at *
  refine wpAnyH_take_at (i := 0) (v := ?v0_17) rfl (by kernel_rfl) (by kernel_rfl) (by kernel_rfl) (fun _ _ _ h => h) (Or.inl ⟨by rfl, ?y0_17⟩) hHeld ?r0_17
  case y0_17 => (intro w hSw; (try dsimp only at hSw); go_simp; first | done | with_reducible rfl)
  (try simp only [Act.put, nm1, nm2, nm3])
  refine wpAnyH_one (i := 1) (by kernel_rfl) rfl (fun KK hK => ?_)
  go_simp
  refine (HRT.out _ HK15.out).mono ?_
  rintro e w18 ⟨rfl, hk⟩
  have HA19 := Lib.hid (((hk.out).block _ (lt_of_heap HA11.out) (fun x => x)).trans HA11.out)
  have HB20 := Lib.hid (((hk.out).block _ (lt_of_heap HB12.out) (fun x => x)).trans HB12.out)
  have HS21 := Lib.hid (((hk.out).block _ (lt_of_heap HS13.out) (fun x => x)).trans HS13.out)
  have HU22 := Lib.hid (((hk.out).block _ (lt_of_heap HU14.out) (fun x => x)).trans HU14.out)
  have HK23 := Lib.hid (HK15.out.trans hk.out)
  clear hk HRT HA11 HB12 HS13 HU14 HK15
  go_simp
  refine hK.out _ _ ?s_24 (fun hHeld => ?_)
  case s_24 => exact HMK10.out _ HA19.out HB20.out HS21.out
  clear hK KK
  (try simp only [Act.put, nm1, nm2, nm3])
  refine wpAnyH_one (i := 2) (by kernel_rfl) rfl (fun KK hK => ?_)
  go_simp
  refine hK.out _ _ ?s_25 (fun hHeld => ?_)
  case s_25 => exact HMK10.out _ HA19.out HB20.out HS21.out
  clear hK KK
  (try simp only [Act.put, nm1, nm2, nm3])
  refine wpAnyH_one (i := 3) (by kernel_rfl) rfl (fun KK hK => ?_)
  go_simp
  refine hK.out _ _ ?s_26 (fun hHeld => ?_)
  case s_26 => exact HMK10.out _ HA19.out HB20.out HS21.out
  clear hK KK
  (try simp only [Act.put, nm1, nm2, nm3])
  refine wpAnyH_take_at (i := 4) (v := ?v4_27) rfl (by kernel_rfl) (by kernel_rfl) (by kernel_rfl) (fun _ _ _ h => h) (Or.inl ⟨by rfl, ?y4_27⟩) hHeld ?r4_27
  case y4_27 => (intro w hSw; (try dsimp only at hSw); go_simp; first | done | with_reducible rfl)
  (try simp only [Act.put, nm1, nm2, nm3])
  refine wpAnyH_take_at (i := 5) (v := ?v5_28) rfl (by kernel_rfl) (by kernel_rfl) (by kernel_rfl) (fun _ _ _ h => h) (Or.inl ⟨by rfl, ?y5_28⟩) hHeld ?r5_28
  case y5_28 => (intro w hSw; (try dsimp only at hSw); go_simp; first | done | with_reducible rfl)
  (try simp only [Act.put, nm1, nm2, nm3])
  refine wpAnyH_one (i := 6) (by kernel_rfl) rfl (fun KK hK => ?_)
  go_simp
  refine (HSM.out _ HK23.out).mono ?_
  rintro e w29 ⟨rfl, hk⟩
  have HA30 := Lib.hid (((hk.out).block _ (lt_of_heap HA19.out) (fun x => x)).trans HA19.out)
  have HB31 := Lib.hid (((hk.out).block _ (lt_of_heap HB20.out) (fun x => x)).trans HB20.out)
  have HS32 := Lib.hid (((hk.out).block _ (lt_of_heap HS21.out) (fun x => x)).trans HS21.out)
  have HU33 := Lib.hid (((hk.out).block _ (lt_of_heap HU22.out) (fun x => x)).trans HU22.out)
  have HK34 := Lib.hid (HK23.out.trans hk.out)
  clear hk HSM HA19 HB20 HS21 HU22 HK23
  go_simp
  refine hK.out _ _ ?s_35 (fun hHeld => ?_)
  case s_35 => exact HMK10.out _ HA30.out HB31.out HS32.out
  clear hK KK
  (try simp only [Act.put, nm1, nm2, nm3])
  refine wpAnyH_one (i := 7) (by kernel_rfl) rfl (fun KK hK => ?_)
  go_simp
  refine hK.out _ _ ?s_36 (fun hHeld => ?_)
  case s_36 => exact HMK10.out _ HA30.out HB31.out HS32.out
  clear hK KK
  (try simp only [Act.put, nm1, nm2, nm3])
  refine wpAnyH_one (i := 8) (by kernel_rfl) rfl (fun KK hK => ?_)
  go_simp
  refine hK.out _ _ ?s_37 (fun hHeld => ?_)
  case s_37 => exact HMK10.out _ HA30.out HB31.out HS32.out
  clear hK KK
  (try simp only [Act.put, nm1, nm2, nm3])
  refine wpAnyH_one (i := 9) (by kernel_rfl) rfl (fun KK hK => ?_)
  go_simp
  refine hK.out _ _ ?s_38 (fun hHeld => ?_)
  case s_38 => exact HMK10.out _ HA30.out HB31.out HS32.out
  clear hK KK
  (try simp only [Act.put, nm1, nm2, nm3])
  refine wpAnyH_take_at (i := 13) (v := ?v13_39) rfl (by kernel_rfl) (by kernel_rfl) (by kernel_rfl) (fun _ _ _ h => h) (Or.inl ⟨by rfl, ?y13_39⟩) hHeld ?r13_39
  case y13_39 => (intro w hSw; (try dsimp only at hSw); go_simp; first | done | with_reducible rfl)
  (try simp only [Act.put, nm1, nm2, nm3])
  refine wpAnyH_take_at (i := 14) (v := ?v14_40) rfl (by kernel_rfl) (by kernel_rfl) (by kernel_rfl) (fun _ _ _ h => h) (Or.inl ⟨by rfl, ?y14_40⟩) hHeld ?r14_40
  case y14_40 => (intro w hSw; (try dsimp only at hSw); go_simp; first | done | with_reducible rfl)
  (try simp only [Act.put, nm1, nm2, nm3])
  refine wpAnyH_take_at (i := 10) (v := ?v10_41) rfl (by kernel_rfl) (by kernel_rfl) (by kernel_rfl) (fun _ _ _ h => h) (Or.inl ⟨by rfl, ?y10_41⟩) hHeld ?r10_41
  case y10_41 => (intro w hSw; (try dsimp only at hSw); go_simp; first | done | with_reducible rfl)
  (try simp only [Act.put, nm1, nm2, nm3])
  refine wpAnyH_take_at (i := 11) (v := ?v11_42) rfl (by kernel_rfl) (by kernel_rfl) (by kernel_rfl) (fun _ _ _ h => h) (Or.inl ⟨by rfl, ?y11_42⟩) hHeld ?r11_42
  case y11_42 => (intro w hSw; (try dsimp only at hSw); go_simp; first | done | with_reducible rfl)
  (try simp only [Act.put, nm1, nm2, nm3])
  refine wpAnyH_one (i := 12) (by kernel_rfl) rfl (fun KK hK => ?_)
  go_simp
  refine hK.out _ _ ?s_43 (fun hHeld => ?_)
  case s_43 => exact HMK10.out _ HA30.out HB31.out HS32.out
  clear hK KK
  (try simp only [Act.put, nm1, nm2, nm3])
  refine wpAnyH_one (i := 15) (by kernel_rfl) rfl (fun KK hK => ?_)
  go_simp
  refine hK.out _ _ ?s_44 (fun hHeld => ?_)
  case s_44 => exact HMK10.out _ HA30.out HB31.out HS32.out
  clear hK KK
  (try simp only [Act.put, nm1, nm2, nm3])
  refine wpAnyH_one (i := 16) (by kernel_rfl) rfl (fun KK hK => ?_)
  go_simp
  refine hK.out _ _ ?s_45 (fun hHeld => ?_)
  case s_45 => exact HMK10.out _ HA30.out HB31.out HS32.out
  clear hK KK
  (try simp only [Act.put, nm1, nm2, nm3])
  refine wpAnyH_one (i := 17) (by kernel_rfl) rfl (fun KK hK => ?_)
  go_simp
  refine hK.out _ _ ?s_46 (fun hHeld => ?_)
  case s_46 => exact HMK10.out _ HA30.out HB31.out HS32.out
  clear hK KK
  (try simp only [Act.put, nm1, nm2, nm3])
  refine wpAnyH_take_at (i := 21) (v := ?v21_47) rfl (by kernel_rfl) (by kernel_rfl) (by kernel_rfl) (fun _ _ _ h => h) (Or.inl ⟨by rfl, ?y21_47⟩) hHeld ?r21_47
  case y21_47 => (intro w hSw; (try dsimp only at hSw); go_simp; first | done | with_reducible rfl)
  (try simp only [Act.put, nm1, nm2, nm3])
  refine wpAnyH_take_at (i := 22) (v := ?v22_48) rfl (by kernel_rfl) (by kernel_rfl) (by kernel_rfl) (fun _ _ _ h => h) (Or.inl ⟨by rfl, ?y22_48⟩) hHeld ?r22_48
  case y22_48 => (intro w hSw; (try dsimp only at hSw); go_simp; first | done | with_reducible rfl)
  (try simp only [Act.put, nm1, nm2, nm3])
  refine wpAnyH_take_at (i := 18) (v := ?v18_49) rfl (by kernel_rfl) (by kernel_rfl) (by kernel_rfl) (fun _ _ _ h => h) (Or.inl ⟨by rfl, ?y18_49⟩) hHeld ?r18_49
  case y18_49 => (intro w hSw; (try dsimp only at hSw); go_simp; first | done | with_reducible rfl)
  (try simp only [Act.put, nm1, nm2, nm3])
  refine wpAnyH_take_at (i := 19) (v := ?v19_50) rfl (by kernel_rfl) (by kernel_rfl) (by kernel_rfl) (fun _ _ _ h => h) (Or.inl ⟨by rfl, ?y19_50⟩) hHeld ?r19_50
  case y19_50 => (intro w hSw; (try dsimp only at hSw); go_simp; first | done | with_reducible rfl)
  (try simp only [Act.put, nm1, nm2, nm3])
  refine wpAnyH_one (i := 20) (by kernel_rfl) rfl (fun KK hK => ?_)
  go_simp
  refine hK.out _ _ ?s_51 (fun hHeld => ?_)
  case s_51 => exact HMK10.out _ HA30.out HB31.out HS32.out
  clear hK KK
  (try simp only [Act.put, nm1, nm2, nm3])
  refine wpAnyH_one (i := 23) (by kernel_rfl) rfl (fun KK hK => ?_)
  go_simp
  refine hK.out _ _ ?s_52 (fun hHeld => ?_)
  case s_52 => exact HMK10.out _ HA30.out HB31.out HS32.out
  clear hK KK
  (try simp only [Act.put, nm1, nm2, nm3])
  refine wpAnyH_one (i := 24) (by kernel_rfl) rfl (fun KK hK => ?_)
  go_simp
  refine hK.out _ _ ?s_53 (fun hHeld => ?_)
  case s_53 => exact HMK10.out _ HA30.out HB31.out HS32.out
  clear hK KK
  (try simp only [Act.put, nm1, nm2, nm3])
  refine wpAnyH_one (i := 25) (by kernel_rfl) rfl (fun KK hK => ?_)
  go_simp
  refine hK.out _ _ ?s_54 (fun hHeld => ?_)
  case s_54 => exact HMK10.out _ HA30.out HB31.out HS32.out
  clear hK KK
  (try simp only [Act.put, nm1, nm2, nm3])
  refine wpAnyH_take_at (i := 29) (v := ?v29_55) rfl (by kernel_rfl) (by kernel_rfl) (by kernel_rfl) (fun _ _ _ h => h) (Or.inl ⟨by rfl, ?y29_55⟩) hHeld ?r29_55
  case y29_55 => (intro w hSw; (try dsimp only at hSw); go_simp; first | done | with_reducible rfl)
  (try simp only [Act.put, nm1, nm2, nm3])
  refine wpAnyH_take_at (i := 30) (v := ?v30_56) rfl (by kernel_rfl) (by kernel_rfl) (by kernel_rfl) (fun _ _ _ h => h) (Or.inl ⟨by rfl, ?y30_56⟩) hHeld ?r30_56
  case y30_56 => (intro w hSw; (try dsimp only at hSw); go_simp; first | done | with_reducible rfl)
  (try simp only [Act.put, nm1, nm2, nm3])
  refine wpAnyH_take_at (i := 26) (v := ?v26_57) rfl (by kernel_rfl) (by kernel_rfl) (by kernel_rfl) (fun _ _ _ h => h) (Or.inl ⟨by rfl, ?y26_57⟩) hHeld ?r26_57
  case y26_57 => (intro w hSw; (try dsimp only at hSw); go_simp; first | done | with_reducible rfl)
  (try simp only [Act.put, nm1, nm2, nm3])
  refine wpAnyH_one (i := 27) (by kernel_rfl) rfl (fun KK hK => ?_)
  go_simp
  refine (HPR.out _ HK34.out).mono ?_
  rintro e w58 ⟨aoP, cpP, rfl, hk⟩
  have HA59 := Lib.hid (((hk.out).block _ (lt_of_heap HA30.out) (fun x => x)).trans HA30.out)
  have HB60 := Lib.hid (((hk.out).block _ (lt_of_heap HB31.out) (fun x => x)).trans HB31.out)
  have HS61 := Lib.hid (((hk.out).block _ (lt_of_heap HS32.out) (fun x => x)).trans HS32.out)
  have HU62 := Lib.hid (((hk.out).block _ (lt_of_heap HU33.out) (fun x => x)).trans HU33.out)
  have HK63 := Lib.hid (HK34.out.trans hk.out)
  clear hk HPR HA30 HB31 HS32 HU33 HK34
  go_simp
  refine hK.out _ _ ?s_64 (fun hHeld => ?_)
  case s_64 => exact HMK10.out _ HA59.out HB60.out HS61.out
  clear hK KK
  (try simp only [Act.put, nm1, nm2, nm3])
  refine wpAnyH_one (i := 28) (by kernel_rfl) rfl (fun KK hK => ?_)
  go_simp
  refine hK.out _ _ ?s_65 (fun hHeld => ?_)
  case s_65 => exact HMK10.out _ HA59.out HB60.out HS61.out
  clear hK KK
  (try simp only [Act.put, nm1, nm2, nm3])
  refine wpAnyH_one (i := 31) (by kernel_rfl) rfl (fun KK hK => ?_)
  go_simp
  refine hK.out _ _ ?s_66 (fun hHeld => ?_)
  case s_66 => exact HMK10.out _ HA59.out HB60.out HS61.out
  clear hK KK
  (try simp only [Act.put, nm1, nm2, nm3])
  refine wpAnyH_one (i := 32) (by kernel_rfl) rfl (fun KK hK => ?_)
  go_simp
  refine hK.out _ _ ?s_67 (fun hHeld => ?_)
  case s_67 => exact HMK10.out _ HA59.out HB60.out HS61.out
  clear hK KK
  (try simp only [Act.put, nm1, nm2, nm3])
  refine wpAnyH_one (i := 33) (by kernel_rfl) rfl (fun KK hK => ?_)
  go_simp
  refine hK.out _ _ ?s_68 (fun hHeld => ?_)
  case s_68 => exact HMK10.out _ HA59.out HB60.out HS61.out
  clear hK KK
  (try simp only [Act.put, nm1, nm2, nm3])
  refine wpAnyH_take_at (i := 37) (v := ?v37_69) rfl (by kernel_rfl) (by kernel_rfl) (by kernel_rfl) (fun _ _ _ h => h) (Or.inl ⟨by rfl, ?y37_69⟩) hHeld ?r37_69
  case y37_69 => (intro w hSw; (try dsimp only at hSw); go_simp; first | done | with_reducible rfl)
  (try simp only [Act.put, nm1, nm2, nm3])
  refine wpAnyH_take_at (i := 38) (v := ?v38_70) rfl (by kernel_rfl) (by kernel_rfl) (by kernel_rfl) (fun _ _ _ h => h) (Or.inl ⟨by rfl, ?y38_70⟩) hHeld ?r38_70
  case y38_70 => (intro w hSw; (try dsimp only at hSw); go_simp; first | done | with_reducible rfl)
  (try simp only [Act.put, nm1, nm2, nm3])
  refine wpAnyH_take_at (i := 34) (v := ?v34_71) rfl (by kernel_rfl) (by kernel_rfl) (by kernel_rfl) (fun _ _ _ h => h) (Or.inl ⟨by rfl, ?y34_71⟩) hHeld ?r34_71
  case y34_71 => (intro w hSw; (try dsimp only at hSw); go_simp; first | done | with_reducible rfl)
  (try simp only [Act.put, nm1, nm2, nm3])
  refine wpAnyH_one (i := 35) (by kernel_rfl) rfl (fun KK hK => ?_)
  go_simp
  refine (HNM.out _ HK63.out).mono ?_
  rintro e w72 ⟨aoN, cpN, rfl, hk⟩
  have HA73 := Lib.hid (((hk.out).block _ (lt_of_heap HA59.out) (fun x => x)).trans HA59.out)
  have HB74 := Lib.hid (((hk.out).block _ (lt_of_heap HB60.out) (fun x => x)).trans HB60.out)
  have HS75 := Lib.hid (((hk.out).block _ (lt_of_heap HS61.out) (fun x => x)).trans HS61.out)
  have HU76 := Lib.hid (((hk.out).block _ (lt_of_heap HU62.out) (fun x => x)).trans HU62.out)
  have HK77 := Lib.hid (HK63.out.trans hk.out)
  clear hk HNM HA59 HB60 HS61 HU62 HK63
  go_simp
  refine hK.out _ _ ?s_78 (fun hHeld => ?_)
  case s_78 => exact HMK10.out _ HA73.out HB74.out HS75.out
  clear hK KK
  (try simp only [Act.put, nm1, nm2, nm3])
  refine wpAnyH_one (i := 36) (by kernel_rfl) rfl (fun KK hK => ?_)
  go_simp
  refine hK.out _ _ ?s_79 (fun hHeld => ?_)
  case s_79 => exact HMK10.out _ HA73.out HB74.out HS75.out
  clear hK KK
  (try simp only [Act.put, nm1, nm2, nm3])
  refine wpAnyH_one (i := 39) (by kernel_rfl) rfl (fun KK hK => ?_)
  go_simp
  refine hK.out _ _ ?s_80 (fun hHeld => ?_)
  case s_80 => exact HMK10.out _ HA73.out HB74.out HS75.out
  clear hK KK
  (try simp only [Act.put, nm1, nm2, nm3])
  refine wpAnyH_one (i := 40) (by kernel_rfl) rfl (fun KK hK => ?_)
  go_simp
  refine hK.out _ _ ?s_81 (fun hHeld => ?_)
  case s_81 => exact HMK10.out _ HA73.out HB74.out HS75.out
  clear hK KK
  (try simp only [Act.put, nm1, nm2, nm3])
  refine wpAnyH_done (by kernel_rfl) ?_ _
  refine NoPanic.normal ?_
  clear hHeld HMK10
  clear k0 k3 kp kn HA73 HB74 HS75
  go_upto_region 8 with fail
  have HQ1 : ∀ w, (binOp .eql 40 (.agg #[.string ⟨#[]⟩, .string ⟨#[]⟩]) (.agg #[.string ⟨#[]⟩, .string ⟨#[]⟩])).run Tryz.prog w = .ok (.bool true) w := fun w => rol_eql ([], []) ([], []) w
  have HQ2 : ∀ w, (binOp .eql 44 (.agg #[.int .i64 0, .string ⟨#[]⟩, .string ⟨#[]⟩, .string ⟨#[]⟩, .string ⟨#[]⟩, .string ⟨#[]⟩, .string ⟨#[]⟩, .string ⟨#[]⟩, .string ⟨#[]⟩]) (.agg #[.int .i64 0, .string ⟨#[]⟩, .string ⟨#[]⟩, .string ⟨#[]⟩, .string ⟨#[]⟩, .string ⟨#[]⟩, .string ⟨#[]⟩, .string ⟨#[]⟩, .string ⟨#[]⟩])).run Tryz.prog w = .ok (.bool true) w := fun w => stm_eql noStm noStm w
  have HQ3 : ∀ w, (Instr.field 49 (.agg #[.int .i64 0, .string ⟨#[]⟩, .string ⟨#[]⟩, .string ⟨#[]⟩, .string ⟨#[]⟩, .slice none 0 0]) 0).run Tryz.prog w = .ok (.int .i64 0) w := fun w => by
   first | rfl | kernel_rfl | simp [go_sem, Tryz.underlying49]
  have HQ4 : ∀ w, (Instr.field 57 (.agg #[.slice none 0 0, .slice none 0 0, .slice none 0 0, .slice none 0 0]) 0).run Tryz.prog w = .ok (.slice none 0 0) w := fun w => by
   first | rfl | kernel_rfl | simp [go_sem, Tryz.underlying57]
  obtain ⟨Uc0, Uf0, Uc1, Uf1, Uc2, Uf2, Uc3, Uf3, Uc4, Uf4, Uc5, Uf5⟩ := cf6 HU76.out
  go_wp2_with fail
  refine (HZN1.out _).mono ?_
  rintro e w82 ⟨rfl, hk⟩
  have HU83 := Lib.hid (((hk.out).block _ (lt_of_heap HU76.out) (fun x => x)).trans HU76.out)
  have HK84 := Lib.hid (HK77.out.trans hk.out)
  clear Uc0 Uf0 Uc1 Uf1 Uc2 Uf2 Uc3 Uf3 Uc4 Uf4 Uc5 Uf5
  clear hk HU76 HK77
  clear HZN1
  obtain ⟨Uc0, Uf0, Uc1, Uf1, Uc2, Uf2, Uc3, Uf3, Uc4, Uf4, Uc5, Uf5⟩ := cf6 HU83.out
  go_wp2_with fail
  refine (HZN2.out _).mono ?_
  rintro e w85 ⟨rfl, hk⟩
  have HU86 := Lib.hid (((hk.out).block _ (lt_of_heap HU83.out) (fun x => x)).trans HU83.out)
  have HK87 := Lib.hid (HK84.out.trans hk.out)
  clear Uc0 Uf0 Uc1 Uf1 Uc2 Uf2 Uc3 Uf3 Uc4 Uf4 Uc5 Uf5
  clear hk HU83 HK84
  clear HZN2
  obtain ⟨Uc0, Uf0, Uc1, Uf1, Uc2, Uf2, Uc3, Uf3, Uc4, Uf4, Uc5, Uf5⟩ := cf6 HU86.out
  go_wp2_with fail
  refine (HZN3.out _).mono ?_
  rintro e w88 ⟨rfl, hk⟩
  have HU89 := Lib.hid (((hk.out).block _ (lt_of_heap HU86.out) (fun x => x)).trans HU86.out)
  have HK90 := Lib.hid (HK87.out.trans hk.out)
  clear Uc0 Uf0 Uc1 Uf1 Uc2 Uf2 Uc3 Uf3 Uc4 Uf4 Uc5 Uf5
  clear hk HU86 HK87
  clear HZN3
  obtain ⟨Uc0, Uf0, Uc1, Uf1, Uc2, Uf2, Uc3, Uf3, Uc4, Uf4, Uc5, Uf5⟩ := cf6 HU89.out
  go_wp2_with fail
  refine (HZN4.out _).mono ?_
  rintro e w91 ⟨rfl, hk⟩
  have HU92 := Lib.hid (((hk.out).block _ (lt_of_heap HU89.out) (fun x => x)).trans HU89.out)
  have HK93 := Lib.hid (HK90.out.trans hk.out)
  clear Uc0 Uf0 Uc1 Uf1 Uc2 Uf2 Uc3 Uf3 Uc4 Uf4 Uc5 Uf5
  clear hk HU89 HK90
  clear HZN4
  obtain ⟨Uc0, Uf0, Uc1, Uf1, Uc2, Uf2, Uc3, Uf3, Uc4, Uf4, Uc5, Uf5⟩ := cf6 HU92.out
  go_wp2_with fail
  refine (HZN5.out _).mono ?_
  rintro e w94 ⟨rfl, hk⟩
  have HU95 := Lib.hid (((hk.out).block _ (lt_of_heap HU92.out) (fun x => x)).trans HU92.out)
  have HK96 := Lib.hid (HK93.out.trans hk.out)
  clear Uc0 Uf0 Uc1 Uf1 Uc2 Uf2 Uc3 Uf3 Uc4 Uf4 Uc5 Uf5
  clear hk HU92 HK93
  clear HZN5
  obtain ⟨Uc0, Uf0, Uc1, Uf1, Uc2, Uf2, Uc3, Uf3, Uc4, Uf4, Uc5, Uf5⟩ := cf6 HU95.out
  go_wp2_with fail
  refine (HZN6.out _).mono ?_
  rintro e w97 ⟨rfl, hk⟩
  have HU98 := Lib.hid (((hk.out).block _ (lt_of_heap HU95.out) (fun x => x)).trans HU95.out)
  have HK99 := Lib.hid (HK96.out.trans hk.out)
  clear Uc0 Uf0 Uc1 Uf1 Uc2 Uf2 Uc3 Uf3 Uc4 Uf4 Uc5 Uf5
  clear hk HU95 HK96
  clear HZN6
  obtain ⟨Uc0, Uf0, Uc1, Uf1, Uc2, Uf2, Uc3, Uf3, Uc4, Uf4, Uc5, Uf5⟩ := cf6 HU98.out
  go_wp2_with fail
  refine (HLV.out _).mono ?_
  rintro e w100 ⟨rfl, hk⟩
  have HU101 := Lib.hid (((hk.out).block _ (lt_of_heap HU98.out) (fun x => x)).trans HU98.out)
  have HK102 := Lib.hid (HK99.out.trans hk.out)
  clear Uc0 Uf0 Uc1 Uf1 Uc2 Uf2 Uc3 Uf3 Uc4 Uf4 Uc5 Uf5
  clear hk HU98 HK99
  clear HLV
  have HE := Lib.hid (HKW.out.trans HK102.out)
  clear HK102 HKW HU101 HQ1 HQ2 HQ3 HQ4
  go_wp2_with fail
  go_ret
  exact ⟨rfl, HE⟩
theorem shp_of_fits2 {c : Array Value} (hs : c.size = 6) (hf : Fits [.int .i64, .int .i64, .int .i64, .int .i64, .int .i64, .int .i64] 0 c.toList) : ∃ s : Shp, .agg c = ShpV s := by
 obtain ⟨l⟩ := c
 match l, hs with
 | [a, b, d, e, f, g], _ =>
  obtain ⟨u0, h0, x0, rfl, _⟩ := hf 0 _ rfl
  obtain ⟨u1, h1, x1, rfl, _⟩ := hf 1 _ rfl
  obtain ⟨u2, h2, x2, rfl, _⟩ := hf 2 _ rfl
  obtain ⟨u3, h3, x3, rfl, _⟩ := hf 3 _ rfl
  obtain ⟨u4, h4, x4, rfl, _⟩ := hf 4 _ rfl
  obtain ⟨u5, h5, x5, rfl, _⟩ := hf 5 _ rfl
  simp at h0 h1 h2 h3 h4 h5
  subst h0 h1 h2 h3 h4 h5
  exact ⟨⟨x0, x1, x2, x3, x4, x5⟩, rfl⟩
theorem drillRight_walk (w : World) (X : Int) (hX0 : 0 ≤ X) (hX1 : X ≤ 18446744073709551615) (c : Array Value) (hs : c.size = 6) (hf : Fits [.int .i64, .int .i64, .int .i64, .int .i64, .int .i64, .int .i64] 0 c.toList) :
  Calls Tryz.prog 4 #[.int .u64 X, .agg c] w fun e w' => e = .returned (.bool true) ∧ Below w.heap.size w w' := by
 obtain ⟨s, hsv⟩ := shp_of_fits2 hs hf
 rw [hsv]
 exact (drillRight_core w X hX0 hX1 s).mono fun e w' h => ⟨h.1, h.2.out.below (Nat.le_refl _) (fun _ _ x => x)⟩
end Go.Proofs.YtcdfpnlaklaafaaGreat
