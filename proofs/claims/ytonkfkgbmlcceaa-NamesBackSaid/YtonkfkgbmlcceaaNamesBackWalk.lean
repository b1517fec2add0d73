/-
  The walk of the law NamesBack.
-/
import Derived.Test.YtonkfkgbmlcceaaNamesTablesWalk
import Derived.Test.YtonkfkgbmlcceaaNameNil
import Derived.Test.YtonkfkgbmlcceaaKit3
set_option linter.unusedVariables false
set_option linter.unusedSimpArgs false
set_option linter.unnecessarySimpa false
namespace Go.Proofs.Ytonkfkgbmlcceaa
open Go.ChangeShapes Go.WideShapes Go.ChangeAt Go.RowKit Go.Deep
set_option maxRecDepth 100000
set_option maxHeartbeats 6400000
theorem namesBack_core (w : World) {v0 : Value} {l : List Str} (h0 : SrcS w v0 l) (n : Int) (hn0 : -9223372036854775808 ≤ n) (hn1 : n ≤ 9223372036854775807) :
    Calls Try.prog 5 #[v0, .int .i64 n] w fun e w' => e = .returned (.bool true) ∧ Below w.heap.size w w' := by
  obtain ⟨i0, hi0, hz0, hz1, hz2⟩ := info_parts sinfo
  have HL := Lib.hid lives01_any
  have HLI := Lib.hid (light_spec h0.1)
  obtain ⟨k, hk⟩ : ∃ k, min n 60 = k := ⟨_, rfl⟩
  have hk0 : -9223372036854775808 ≤ k := by omega
  have hk1 : k ≤ 9223372036854775807 := by omega
  have hk60 : k ≤ 60 := by omega
  obtain ⟨la, lc, rfl, hlc, hlr⟩ := h0.1
  have HS0 := Lib.hid h0
  have HLR := Lib.hid hlr
  clear h0 hlr
  go_enter Try.func5, Try.ntmps5
  go_wp2_with fail
  refine HLI.out.mono ?_
  rintro e w' ⟨rfl, rfl⟩
  obtain ⟨b0, hb0⟩ : ∃ b, lightB l = b := ⟨_, rfl⟩
  rw [hb0]
  cases b0 with
  | false =>
    clear HLI hk
    go_wp2_with fail
    refine (HL.out _).mono ?_
    rintro e w2 ⟨rfl, hb⟩
    go_wp2_with fail
    go_ret
    exact ⟨rfl, hb⟩
  | true =>
  have hl40 := light_len hb0
  clear hb0 HLI
  have HNW := Lib.hid (names_new HS0.out.1 (by omega))
  go_wp2_with fail
  refine HNW.out.mono ?_
  rintro e w1 ⟨p, rfl, hh1⟩
  obtain ⟨X, hX⟩ : ∃ X, tabL l = X := ⟨_, rfl⟩
  have HXR : Hid (X.Pairwise (· < ·)) := by rw [← hX]; exact tab_rises l
  have hXl : X.length ≤ 40 := by rw [← hX]; exact Nat.le_trans (tab_len l) hl40
  have HXE := Lib.hid hX
  have HK1 := Lib.hid hh1.out.1
  have HT1 : Hid (Tab w1 p X) := by rw [← hX]; exact hh1.out.2
  clear HNW hh1 hX
  obtain ⟨ln, hln⟩ : ∃ ln, l.length = ln := ⟨_, rfl⟩
  rw [hln] at hlc hl40 HS0 HLR ⊢
  have HLN := Lib.hid hln
  clear hln
  go_wp2_with fail
  go_loopg [6, 22] ln (fun g ov t wx => ∃ i : Nat, i ≤ ln ∧ g = ln - i ∧ t = .int .i64 i ∧ Hid (Keeps (fun _ => False) w1 wx ∧ OwnS w1.heap.size wx ov (twS l i)))
  case atStart => exact ⟨0, Nat.zero_le _, rfl, rfl, Keeps.refl _ _, World.ownsRow_nil _ _ _ _⟩
  case round =>
    obtain ⟨i, hi, rfl, rfl, HI⟩ := hrel
    by_cases hlt : i < ln
    · have hiI : (i : Int) < (ln : Int) := by omega
      have hwi : IntKind.i64.wrap ((i : Int) + 1) = (i : Int) + 1 := IntWalk.i64_in _ (by omega)
      obtain ⟨q, hq⟩ : ∃ q, ln - 1 - i = q := ⟨_, rfl⟩
      have hql : q < ln := by omega
      have hqI : (q : Int) < (ln : Int) := by omega
      have hq0 : (0 : Int) ≤ (q : Int) := by omega
      have hw1 : IntKind.i64.wrap ((ln : Int) - 1) = (ln : Int) - 1 := IntWalk.i64_in _ (by omega)
      have hw2 : IntKind.i64.wrap ((ln : Int) - 1 - (i : Int)) = (q : Int) := by rw [IntWalk.i64_in _ (by omega)]; omega
      obtain ⟨x, hx⟩ : ∃ x, l[q]? = some x := ⟨_, List.getElem?_eq_getElem (by rw [HLN.out]; exact hql)⟩
      obtain ⟨y, hy⟩ : ∃ y, l[i]? = some y := ⟨_, List.getElem?_eq_getElem (by rw [HLN.out]; exact hlt)⟩
      obtain ⟨lg, off, rfl, hlg, hlcc⟩ := HLR.out (by omega)
      have hlc1 : i < lc := by omega
      have hlc2 : q < lc := by omega
      have HTW : Hid (twS l (i + 1) = twS l i ++ [x, y]) := by
        show twS l i ++ [l.getD (l.length - 1 - i) [], l.getD i []] = _
        rw [HLN.out, hq, List.getD_eq_getElem?_getD, List.getD_eq_getElem?_getD, hx, hy]
        rfl
      have HK2 := Lib.hid (HK1.out.trans HI.out.1)
      have hcx : wr.cell? ⟨lg, off + q, none⟩ = some (.string ⟨x.toArray⟩) := (HK2.out.cell (p := ⟨lg, off + q, none⟩) hlg (fun x => x)).trans (hlcc q x hx)
      have hcy : wr.cell? ⟨lg, off + i, none⟩ = some (.string ⟨y.toArray⟩) := (HK2.out.cell (p := ⟨lg, off + i, none⟩) hlg (fun x => x)).trans (hlcc i y hy)
      have htl := tw_len l i
      have HOW : Hid (wr.ownsRow w1.heap.size 9 1 u6 (twS l i).length (sCells (twS l i))) := HI.out.2
      have HKR := Lib.hid HI.out.1
      have hsz := HI.out.1.size
      have hsz0 := HK1.out.size
      clear hlcc hx hy hq HI HK2
      obtain ⟨wd, hwd⟩ : ∃ wd, wr.drew = wd := ⟨_, rfl⟩
      have hkd : Keeps (fun _ => False) wr wd := by rw [← hwd]; exact (Keeps.refl _ _).drew
      have hS0 : (fun w' => w'.cell? ⟨lg, off + q, none⟩ = some (.string ⟨x.toArray⟩) ∧ w'.cell? ⟨lg, off + i, none⟩ = some (.string ⟨y.toArray⟩)) wr.drew := ⟨hcx, hcy⟩
      have hlgr : lg < wr.heap.size := by omega
      have HOD : Hid ((wr.drew.alloc (.cells #[.string ⟨x.toArray⟩, .string ⟨y.toArray⟩] 9)).ownsRow w1.heap.size 9 1 u6 (twS l i).length (sCells (twS l i))) := (ownsRow_keeps' HOW.out ((Keeps.refl (fun _ => False) wr).drew) (fun _ _ x => x)).alloc _
      have HKD : Hid (Keeps (fun _ => False) wr (wr.drew.alloc (.cells #[.string ⟨x.toArray⟩, .string ⟨y.toArray⟩] 9))) := ((Keeps.refl (fun _ => False) wr).drew).trans ((Keeps.refl _ _).alloc _)
      have HCN : Hid (∀ (j : Nat) (u : Value), ([.string ⟨x.toArray⟩, .string ⟨y.toArray⟩] : List Value)[j]? = some u → (wr.drew.alloc (.cells #[.string ⟨x.toArray⟩, .string ⟨y.toArray⟩] 9)).cell? ((⟨wr.heap.size, 0, none⟩ : Addr).add j) = some u) := cells_new wr.drew [.string ⟨x.toArray⟩, .string ⟨y.toArray⟩] 9
      have HSA : Hid ((fun w' => w'.cell? ⟨lg, off + q, none⟩ = some (.string ⟨x.toArray⟩) ∧ w'.cell? ⟨lg, off + i, none⟩ = some (.string ⟨y.toArray⟩)) (wr.drew.alloc (.cells #[.string ⟨x.toArray⟩, .string ⟨y.toArray⟩] 9))) := ⟨(HKD.out.cell (p := ⟨lg, off + q, none⟩) hlgr (fun x => x)).trans hcx, (HKD.out.cell (p := ⟨lg, off + i, none⟩) hlgr (fun x => x)).trans hcy⟩
      have HSB : Hid (∀ w', Keeps (fun b => w1.heap.size ≤ b) (wr.drew.alloc (.cells #[.string ⟨x.toArray⟩, .string ⟨y.toArray⟩] 9)) w' → (w'.cell? ⟨lg, off + q, none⟩ = some (.string ⟨x.toArray⟩) ∧ w'.cell? ⟨lg, off + i, none⟩ = some (.string ⟨y.toArray⟩))) := fun w' h => ⟨(h.cell (p := ⟨lg, off + q, none⟩) (Nat.lt_of_lt_of_le hlgr HKD.out.size) (fun e => by have e' : w1.heap.size ≤ lg := e; omega)).trans HSA.out.1, (h.cell (p := ⟨lg, off + i, none⟩) (Nat.lt_of_lt_of_le hlgr HKD.out.size) (fun e => by have e' : w1.heap.size ≤ lg := e; omega)).trans HSA.out.2⟩
      clear hwd hkd
      go_upto_region 9 with fail
      refine wp_region_noPanic ?_
      refine wp_region_held_drew (S := (fun w' => w'.cell? ⟨lg, off + q, none⟩ = some (.string ⟨x.toArray⟩) ∧ w'.cell? ⟨lg, off + i, none⟩ = some (.string ⟨y.toArray⟩))) (by kernel_rfl) hS0 (fun hHeld => ?_)
      refine wpAnyH_take_at (i := 0) (v := ?v0a) rfl (by kernel_rfl) (by kernel_rfl) (by kernel_rfl) (fun _ _ _ h => h) (Or.inl ⟨by rfl, ?y0a⟩) hHeld ?r0a
      case y0a => (intro w hSw; (try dsimp only at hSw); go_simp; first | done | with_reducible rfl)
      (try simp only [Act.put, List.setIfInBounds_toArray, List.set_cons_zero, List.set_cons_succ])
      refine wpAnyH_take_at (i := 1) (v := ?v1a) rfl (by kernel_rfl) (by kernel_rfl) (by kernel_rfl) (fun _ _ _ h => h) (Or.inl ⟨by rfl, ?y1a⟩) hHeld ?r1a
      case y1a => (intro w hSw; (try dsimp only at hSw); go_simp; first | done | with_reducible rfl)
      (try simp only [Act.put, List.setIfInBounds_toArray, List.set_cons_zero, List.set_cons_succ])
      refine wpAnyH_take_at (i := 2) (v := ?v2a) rfl (by kernel_rfl) (by kernel_rfl) (by kernel_rfl) (fun _ _ _ h => h) (Or.inl ⟨by rfl, ?y2a⟩) hHeld ?r2a
      case y2a => (intro w hSw; (try dsimp only at hSw); go_simp; first | done | with_reducible rfl)
      (try simp only [Act.put, List.setIfInBounds_toArray, List.set_cons_zero, List.set_cons_succ])
      refine wpAnyH_take_at (i := 3) (v := ?v3a) rfl (by kernel_rfl) (by kernel_rfl) (by kernel_rfl) (fun _ _ _ h => h) (Or.inl ⟨by rfl, ?y3a⟩) hHeld ?r3a
      case y3a => (intro w hSw; (try dsimp only at hSw); go_simp; first | done | with_reducible rfl)
      (try simp only [Act.put, List.setIfInBounds_toArray, List.set_cons_zero, List.set_cons_succ])
      refine wpAnyH_take_at (i := 4) (v := ?v4a) rfl (by kernel_rfl) (by kernel_rfl) (by kernel_rfl) (fun _ _ _ h => h) (Or.inl ⟨by rfl, ?y4a⟩) hHeld ?r4a
      case y4a => (intro w hSw; (try dsimp only at hSw); go_simp; first | done | with_reducible rfl)
      (try simp only [Act.put, List.setIfInBounds_toArray, List.set_cons_zero, List.set_cons_succ])
      refine wpAnyH_take_at (i := 5) (v := ?v5a) rfl (by kernel_rfl) (by kernel_rfl) (by kernel_rfl) (fun _ _ _ h => h) (Or.inl ⟨by rfl, ?y5a⟩) hHeld ?r5a
      case y5a => (intro w hSw; (try dsimp only at hSw); go_simp; first | done | with_reducible rfl)
      (try simp only [Act.put, List.setIfInBounds_toArray, List.set_cons_zero, List.set_cons_succ])
      refine wpAnyH_take_at (i := 6) (v := ?v6a) rfl (by kernel_rfl) (by kernel_rfl) (by kernel_rfl) (fun _ _ _ h => h) (Or.inl ⟨by rfl, ?y6a⟩) hHeld ?r6a
      case y6a => (intro w hSw; (try dsimp only at hSw); go_simp; first | done | with_reducible rfl)
      (try simp only [Act.put, List.setIfInBounds_toArray, List.set_cons_zero, List.set_cons_succ])
      refine wpAnyH_take_at (i := 7) (v := ?v7a) rfl (by kernel_rfl) (by kernel_rfl) (by kernel_rfl) (fun _ _ _ h => h) (Or.inl ⟨by rfl, ?y7a⟩) hHeld ?r7a
      case y7a => (intro w hSw; (try dsimp only at hSw); go_simp; first | done | with_reducible rfl)
      (try simp only [Act.put, List.setIfInBounds_toArray, List.set_cons_zero, List.set_cons_succ])
      refine wpAnyH_take_at (i := 8) (v := ?v8a) rfl (by kernel_rfl) (by kernel_rfl) (by kernel_rfl) (fun _ _ _ h => h) (Or.inl ⟨by rfl, ?y8a⟩) hHeld ?r8a
      case y8a => (intro w hSw; (try dsimp only at hSw); go_simp; first | done | with_reducible rfl)
      (try simp only [Act.put, List.setIfInBounds_toArray, List.set_cons_zero, List.set_cons_succ])
      refine wpAnyH_take_at (i := 9) (v := ?v9a) rfl (by kernel_rfl) (by kernel_rfl) (by kernel_rfl) (fun _ _ _ h => h) (Or.inl ⟨by rfl, ?y9a⟩) hHeld ?r9a
      case y9a => (intro w hSw; (try dsimp only at hSw); go_simp; first | done | with_reducible rfl)
      (try simp only [Act.put, List.setIfInBounds_toArray, List.set_cons_zero, List.set_cons_succ])
      refine wpAnyH_take_at (i := 10) (v := ?v10a) rfl (by kernel_rfl) (by kernel_rfl) (by kernel_rfl) (fun _ _ _ h => h) (Or.inl ⟨by rfl, ?y10a⟩) hHeld ?r10a
      case y10a => (intro w hSw; (try dsimp only at hSw); go_simp; first | done | with_reducible rfl)
      (try simp only [Act.put, List.setIfInBounds_toArray, List.set_cons_zero, List.set_cons_succ])
      refine wpAnyH_take_at (i := 11) (v := ?v11a) rfl (by kernel_rfl) (by kernel_rfl) (by kernel_rfl) (fun _ _ _ h => h) (Or.inl ⟨by rfl, ?y11a⟩) hHeld ?r11a
      case y11a => (intro w hSw; (try dsimp only at hSw); go_simp; first | done | with_reducible rfl)
      (try simp only [Act.put, List.setIfInBounds_toArray, List.set_cons_zero, List.set_cons_succ])
      refine wpAnyH_take_at (i := 12) (v := ?v12a) rfl (by kernel_rfl) (by kernel_rfl) (by kernel_rfl) (fun _ _ _ h => h) (Or.inl ⟨by rfl, ?y12a⟩) hHeld ?r12a
      case y12a => (intro w hSw; (try dsimp only at hSw); go_simp; first | done | with_reducible rfl)
      (try simp only [Act.put, List.setIfInBounds_toArray, List.set_cons_zero, List.set_cons_succ])
      refine wpAnyH_one (i := 13) (by kernel_rfl) rfl (fun KK hK => ?_)
      go_simp
      refine hK.out _ _ ?s13a (fun hHeld => ?_)
      case s13a => exact HSA.out
      clear hK KK
      (try simp only [Act.put, List.setIfInBounds_toArray, List.set_cons_zero, List.set_cons_succ])
      refine wpAnyH_one (i := 14) (by kernel_rfl) rfl (fun KK hK => ?_)
      refine step_append_own rfl (.tmp 25) (.tmp 38) 24 rfl w1.heap.size 9 i0 _ 1 16 Try.underlying24 hi0 hz0 hz1 hz2 rfl (by decide) u6 (twS l i).length (sCells (twS l i)) (by simp [Act.eval, Act.put]) HOD.out ⟨wr.heap.size, 0, none⟩ 2 2 [.string ⟨x.toArray⟩, .string ⟨y.toArray⟩] (by simp [Act.eval, Act.put]) rfl HCN.out (by intro u hu; simp only [List.mem_cons, List.not_mem_nil, or_false] at hu; rcases hu with rfl | rfl <;> rfl) (by unfold maxLen; omega) (by omega) (Nat.le_trans hsz HKD.out.size) ?_
      intro v2 w2 hown2 hgrow2
      have hk2 : Keeps (fun b => w1.heap.size ≤ b) (wr.drew.alloc (.cells #[.string ⟨x.toArray⟩, .string ⟨y.toArray⟩] 9)) w2 := (keeps_grown hgrow2).mono (fun b _ e => own_block HOW.out b e)
      have HN : Hid (Keeps (fun _ => False) w1 w2 ∧ OwnS w1.heap.size w2 v2 (twS l (i + 1))) := by
        refine ⟨(HKR.out.trans HKD.out).trans_new hk2 (fun b hb e => by have e' : w1.heap.size ≤ b := e; omega), ?_⟩
        show w2.ownsRow _ _ _ _ (twS l (i + 1)).length (sCells (twS l (i + 1)))
        rw [HTW.out, List.length_append, show sCells (twS l i ++ [x, y]) = sCells (twS l i) ++ [.string ⟨x.toArray⟩, .string ⟨y.toArray⟩] from List.map_append]
        exact hown2
      have HSC := Lib.hid (HSB.out w2 hk2)
      clear hown2 hgrow2 hk2 HSB HSA HCN HOD HKD HOW HKR HTW
      refine hK.out _ _ ?s14a (fun hHeld => ?_)
      case s14a => exact HSC.out
      clear hK KK
      (try simp only [Act.put, List.setIfInBounds_toArray, List.set_cons_zero, List.set_cons_succ])
      refine wpAnyH_take_at (i := 15) (v := ?v15a) rfl (by kernel_rfl) (by kernel_rfl) (by kernel_rfl) (fun _ _ _ h => h) (Or.inl ⟨by rfl, ?y15a⟩) hHeld ?r15a
      case y15a => (intro w hSw; (try dsimp only at hSw); go_simp; first | done | with_reducible rfl)
      (try simp only [Act.put, List.setIfInBounds_toArray, List.set_cons_zero, List.set_cons_succ])
      refine wpAnyH_done (by kernel_rfl) ?_ _
      refine NoPanic.normal ?_
      clear hHeld hS0 HSC hcx hcy
      go_wp2_with fail
      go_roundg (ln - (i + 1))
      case measure => omega
      case rel => exact ⟨i + 1, by omega, rfl, by go_num, HN⟩
    · obtain rfl : i = ln := by omega
      have hiI : ¬ (i : Int) < (i : Int) := by omega
      have HTT : Hid (tabL (twS l i) = X) := by
        show _ = _
        rw [← HXE.out, ← tw_tab l, HLN.out]
      have htl := tw_len l i
      have HK2 := Lib.hid (HK1.out.trans HI.out.1)
      have HT2 := Lib.hid (HT1.out.keeps HI.out.1)
      have HN2 := Lib.hid (names_new (OwnS.reads HI.out.2) (by omega))
      clear HI HT1 HK1
      go_wp2_with fail
      refine HN2.out.mono ?_
      rintro e w3 ⟨p3, rfl, h3⟩
      have HT3 : Hid (Tab w3 p3 X) := by rw [← HTT.out]; exact h3.out.2
      have HTB := Lib.hid (HT2.out.keeps h3.out.1)
      have HK3 := Lib.hid (HK2.out.trans h3.out.1)
      have HA1 := Lib.hid (names_all HT3.out (by omega))
      clear HN2 h3 HT2 HK2 HT3
      go_wp2_with fail
      refine HA1.out.mono ?_
      rintro e w4 ⟨va, rfl, h4⟩
      have HTC := Lib.hid (HTB.out.keeps h4.out.1)
      have HK4 := Lib.hid (HK3.out.trans h4.out.1)
      have HVA := Lib.hid (OwnS.reads h4.out.2)
      have HA2 := Lib.hid (names_all HTC.out (by omega))
      clear HA1 h4 HTB HK3
      go_wp2_with fail
      refine HA2.out.mono ?_
      rintro e w5 ⟨vb, rfl, h5⟩
      have HTD := Lib.hid (HTC.out.keeps h5.out.1)
      have HK5 := Lib.hid (HK4.out.trans h5.out.1)
      have HSM := Lib.hid (ref_same (HVA.out.keeps h5.out.1) (OwnS.reads h5.out.2) (by omega) rfl)
      clear HA2 h5 HTC HK4 HVA
      go_wp2_with fail
      refine HSM.out.mono ?_
      rintro e w' ⟨rfl, nq, rfl⟩
      have HK6 := Lib.hid (HK5.out.drewN nq)
      have HT6 := Lib.hid (HTD.out.keeps ((Keeps.refl (fun _ => False) w5).drewN nq))
      generalize w5.drewN nq = w6 at *
      obtain ⟨xl, hxl⟩ : ∃ xl, X.length = xl := ⟨_, rfl⟩
      have HLE := names_len HT6.out
      rw [hxl] at HLE hXl
      have HLE := Lib.hid HLE
      have HXL := Lib.hid hxl
      clear HSM HTD HK5 hxl
      go_wp2_with fail
      refine HLE.out.mono ?_
      rintro e w' ⟨rfl, rfl⟩
      go_wp2_with fail
      go_loopg [50] xl (fun g t wx => ∃ q : Nat, q ≤ xl ∧ g = xl - q ∧ t = .int .i64 q ∧ wx = w6)
      case atStart => exact ⟨0, Nat.zero_le _, rfl, rfl, rfl⟩
      case round =>
        obtain ⟨q, hq, rfl, rfl, rfl⟩ := hrel
        by_cases hlt2 : q < xl
        · have hqI : (q : Int) < (xl : Int) := by omega
          have hwq : IntKind.i64.wrap ((q : Int) + 1) = (q : Int) + 1 := IntWalk.i64_in _ (by omega)
          obtain ⟨y, hy⟩ : ∃ y, X[q]? = some y := ⟨_, List.getElem?_eq_getElem (by rw [HXL.out]; exact hlt2)⟩
          have HAT := names_at HT6.out (q : Int)
          rw [getL_in hy] at HAT
          have HAT := Lib.hid HAT
          have HFI := names_find HT6.out HXR.out (by rw [HXL.out]; omega) y
          rw [at_get HXR.out hy] at HFI
          have HFI := Lib.hid HFI
          clear hy
          go_wp2_with fail
          refine HAT.out.mono ?_
          rintro e w' ⟨rfl, rfl⟩
          go_wp2_with fail
          refine HFI.out.mono ?_
          rintro e w' ⟨rfl, rfl⟩
          go_wp2_with fail
          go_roundg (xl - (q + 1))
          case measure => omega
          case rel => exact ⟨q + 1, by omega, rfl, by go_num, rfl⟩
        · obtain rfl : q = xl := by omega
          have hqI : ¬ (q : Int) < (q : Int) := by omega
          have HFR := Lib.hid (names_fresh HT6.out HXR.out (by rw [HXL.out]; omega) k hk0 hk1)
          clear HLE
          go_wp2_with fail
          refine HFR.out.mono ?_
          rintro e w7 ⟨vf, rfl, h7⟩
          have HK7 := Lib.hid (HK6.out.trans h7.out.1)
          have HT7 := Lib.hid (HT6.out.keeps h7.out.1)
          obtain ⟨fa, fc, rfl, hfc, hfr⟩ := h7.out.2
          have hfl := freshL_len X k
          obtain ⟨fl, hfe⟩ : ∃ fl, (freshL X k).length = fl := ⟨_, rfl⟩
          rw [hfe] at hfc hfr hfl ⊢
          have HFL := Lib.hid hfe
          have HFC := Lib.hid hfr
          have hfl60 : fl ≤ 60 := by omega
          have HFM := Lib.hid hfl
          have HFD : Hid (∀ s ∈ freshL X k, Calls Try.prog 15 #[.pointer (some ⟨p, 0, none⟩), .string ⟨s.toArray⟩] w7 fun e W' => e = .returned (.int .i64 (-1)) ∧ w7 = W') := fun s hs => by
            have c := names_find HT7.out HXR.out (by rw [HXL.out]; omega) s
            rw [at_out (freshL_out hs).1] at c
            exact c
          have HPR : Hid (∀ s ∈ freshL X k, Calls Try.prog 6 #[.string ⟨s.toArray⟩] w7 fun e W' => e = .returned (.bool true) ∧ w7 = W') := fun s hs => by
            obtain ⟨_, r, hr1, hr2, rfl⟩ := freshL_out hs
            rw [HXL.out] at hr2
            have c := names_prin ⟨(xL r).toArray⟩ w7
            rw [fresh_prin (show r < 10 ^ 7 by have : r < 10000000 := by omega
                                               exact this)] at c
            exact c
          clear HFR h7 HK6 HT6 hfr hfe hfl
          go_wp2_with fail
          go_loopg [65] fl (fun g t wx => ∃ r : Nat, r ≤ fl ∧ g = fl - r ∧ t = .int .i64 r ∧ wx = w7)
          case atStart => exact ⟨0, Nat.zero_le _, rfl, rfl, rfl⟩
          case round =>
            obtain ⟨r, hr, rfl, rfl, rfl⟩ := hrel
            by_cases hlt3 : r < fl
            · have hrI : (r : Int) < (fl : Int) := by omega
              have hwr : IntKind.i64.wrap ((r : Int) + 1) = (r : Int) + 1 := IntWalk.i64_in _ (by omega)
              obtain ⟨s, hs⟩ : ∃ s, (freshL X k)[r]? = some s := ⟨_, List.getElem?_eq_getElem (by rw [HFL.out]; exact hlt3)⟩
              obtain ⟨fg, foff, rfl, hfg, hfcc⟩ := HFC.out (by omega)
              have hcs := hfcc r s hs
              rw [show encStr s = .string ⟨s.toArray⟩ from rfl] at hcs
              have hrc : r < fc := by omega
              have HF1 := Lib.hid (HFD.out s (List.mem_of_getElem? hs))
              have HP1 := Lib.hid (HPR.out s (List.mem_of_getElem? hs))
              clear hs hfcc
              go_wp2_with fail
              refine HF1.out.mono ?_
              rintro e w' ⟨rfl, rfl⟩
              go_wp2_with fail
              refine HP1.out.mono ?_
              rintro e w' ⟨rfl, rfl⟩
              go_wp2_with fail
              go_roundg (fl - (r + 1))
              case measure => omega
              case rel => exact ⟨r + 1, by omega, rfl, by go_num, rfl⟩
            · obtain rfl : r = fl := by omega
              have hrI : ¬ (r : Int) < (r : Int) := by omega
              have HF2 := Lib.hid (names_fresh HT7.out HXR.out (by rw [HXL.out]; omega) k hk0 hk1)
              have hemp : (ByteArray.mk #[]).toList = [] := ByteArray.toList_mk []
              have hmax : max k 0 = (r : Int) := by have := HFM.out; omega
              have hmax2 : max 0 k = (r : Int) := by have := HFM.out; omega
              clear HFD HPR HFC
              go_wp2_with fail
              refine HF2.out.mono ?_
              rintro e w8 ⟨vg, rfl, h8⟩
              obtain ⟨ga, gc, rfl, hgc, hgr⟩ := h8.out.2
              have HK8 := Lib.hid (HK7.out.trans h8.out.1)
              rw [show (freshL X k).length = r from HFL.out] at hgc ⊢
              clear hgr h8 HF2 HT7 HK7
              have HN1 := Lib.hid (nil_len w8)
              have HN2 := Lib.hid (nil_find w8 (.string ⟨#[97]⟩))
              have HN3 := Lib.hid (nil_at w8)
              have HN4 := Lib.hid (nil_all w8)
              have HOS := Lib.hid (one_src w8 [97])
              have HN5 : Hid (Calls Try.prog 13 #[.pointer none, .slice (some ⟨w8.heap.size, 0, none⟩) 1 1] (w8.alloc (.cells #[.string ⟨#[97]⟩] 9)) fun e W' => ∃ p', e = .returned (.pointer (some ⟨p', 0, none⟩)) ∧ Hid (Keeps (fun _ => False) (w8.alloc (.cells #[.string ⟨#[97]⟩] 9)) W' ∧ Tab W' p' [[97]])) := by
                have c := nil_with (one_src w8 [97]) (by decide)
                rw [show tabL [[97]] = [[97]] from tab_eq (by decide) (fun x => Iff.rfl)] at c
                exact c
              have HKA : Hid (Keeps (fun _ => False) w (w8.alloc (.cells #[.string ⟨#[97]⟩] 9))) := HK8.out.trans ((Keeps.refl _ _).alloc _)
              go_wp2_with fail
              refine HN1.out.mono ?_
              rintro e w' ⟨rfl, rfl⟩
              go_wp2_with fail
              refine HN2.out.mono ?_
              rintro e w' ⟨rfl, rfl⟩
              go_wp2_with fail
              refine HN3.out.mono ?_
              rintro e w' ⟨rfl, rfl⟩
              go_wp2_with fail
              refine HN4.out.mono ?_
              rintro e w' ⟨rfl, rfl⟩
              go_wp2_with fail
              refine HN5.out.mono ?_
              rintro e w9 ⟨p9, rfl, h9⟩
              have HK9 := Lib.hid (HKA.out.trans h9.out.1)
              have HLN9 : Hid (Calls Try.prog 19 #[.pointer (some ⟨p9, 0, none⟩)] w9 fun e W' => e = .returned (.int .i64 1) ∧ w9 = W') := names_len h9.out.2
              clear HN1 HN2 HN3 HN4 HN5 HOS HKA HK8 h9
              go_wp2_with fail
              refine HLN9.out.mono ?_
              rintro e w' ⟨rfl, rfl⟩
              go_wp2_with fail
              refine (HL.out _).mono ?_
              rintro e w10 ⟨rfl, hb⟩
              go_wp2_with fail
              go_ret
              exact ⟨rfl, (HK9.out.below (Nat.le_refl _) (fun _ _ x => x.elim)).trans (hb.mono HK9.out.size)⟩
theorem namesBack_walk (w : World) (ao0 : Option Addr) (n0 cap0 : Nat) (G0 : Nat → Nat → Value) (R0 : IsRow w [.string] ao0 n0 cap0 G0) (z0 : ao0 = none → cap0 = 0) (n : Int) (hn0 : -9223372036854775808 ≤ n) (hn1 : n ≤ 9223372036854775807) :
    Calls Try.prog 5 #[.slice ao0 n0 cap0, .int .i64 n] w fun e w' => e = .returned (.bool true) ∧ Below w.heap.size w w' := by
  obtain ⟨l, _, hl⟩ := srcS_row R0 z0
  exact namesBack_core w hl n hn0 hn1
end Go.Proofs.Ytonkfkgbmlcceaa
