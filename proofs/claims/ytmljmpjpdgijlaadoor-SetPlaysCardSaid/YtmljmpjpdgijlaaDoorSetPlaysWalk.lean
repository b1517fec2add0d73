/-
  The walk of the law SetPlays.
-/
import Derived.Test.YtmljmpjpdgijlaaDoorSetPlaysState
import Derived.Test.YtmljmpjpdgijlaaDoorSetSumsPairs
import Derived.Deep.RegionWith
import Derived.Deep.RegionHeld3
import Derived.Test.YtmljmpjpdgijlaaDoorKit3
set_option linter.unusedVariables false
set_option linter.unusedSimpArgs false
set_option linter.unnecessarySimpa false
namespace Go.Proofs.YtmljmpjpdgijlaaDoor
open Go.ChangeShapes Go.WideShapes Go.ChangeAt Go.RowKit Go.Deep SetPlain

set_option maxRecDepth 100000 in
set_option maxHeartbeats 6400000 in
theorem setPlays_core (w : World) (rows : Int) (hr0 : -9223372036854775808 ≤ rows) (hr1 : rows ≤ 9223372036854775807) (cols : Int) (hc0 : -9223372036854775808 ≤ cols) (hc1 : cols ≤ 9223372036854775807) (ao : Option Addr) (n cap : Nat) (G : Nat → Nat → Value) (Rw : IsRow w [.int .i64, .int .i64] ao n cap G) (hT : TabIn w) :
    Calls Tryd.prog 3 #[.int .i64 rows, .int .i64 cols, .slice ao n cap] w fun e w' => e = .returned (.bool true) ∧ Below w.heap.size w w' := by
  have hcap := Rw.le
  have hmax := Rw.max
  unfold maxLen at hmax
  obtain ⟨A, hZ, hA⟩ := Rw.pairs
  have HZ := Lib.hid hZ; have HA := Lib.hid hA; have HT := Lib.hid hT
  clear Rw hZ hA hT
  go_enter Tryd.func3, Tryd.ntmps3
  go_upto_region 1 with fail
  go_cut [2] (fun s wx => ∃ m : Nat, s = .slice ao m cap ∧ m ≤ n ∧ m ≤ 60 ∧ w = wx)
  case first =>
    go_wp2
    all_goals (go_meet; first | exact ⟨n, rfl, by omega, by omega, rfl⟩ | exact ⟨60, rfl, by omega, by omega, rfl⟩)
  case rest =>
    obtain ⟨m, rfl, hmn, hm60, rfl⟩ := hcut
    obtain ⟨R, hR⟩ := within_cases rows 5000
    obtain ⟨C, hC⟩ := within_cases cols 1000
    have HN := Lib.hid (newFam rows cols R C hR hC w)
    have HN2 := Lib.hid (fun W => rfnew_spec rows cols R C hR hC W)
    have hRl := hR.le
    have hCl := hC.le
    clear hR hC hr0 hr1 hc0 hc1
    go_wp2_with fail
    refine HN.out.mono ?_
    rintro e w1 ⟨rfl, t1⟩
    have T1 := Lib.hid t1
    clear t1 HN
    go_wp2_with fail
    refine (HN2.out _).mono ?_
    rintro e w2 ⟨rfl, t2, b2⟩
    have T2 := Lib.hid (SR.of_new (Nat.le_refl _) T1.out t2 b2)
    clear t2 b2 T1 HN2
    go_wp2_with fail
    go_loopg [27] m (fun g s wr => ∃ k : Nat, k ≤ m ∧ g = m - k ∧ s = .int .i64 k ∧ ∃ (In : Nat → Nat → Bool) (L : Nat → Int × Int) (c : Nat) (vr : Value), c ≤ k ∧ Hid (SR w.heap.size wr.heap.size w wr w.heap.size R C In c w1.heap.size vr L c) ∧ Hid (Link R C In c L c))
    case atStart => exact ⟨0, Nat.zero_le _, rfl, rfl, fun _ _ => false, fun _ => default, 0, .slice none 0 0, Nat.le_refl _, T2.out, Link.start R C⟩
    case round =>
      clear T2
      obtain ⟨k, hk, rfl, rfl, In, L, c, vr, hck, ht, hlk⟩ := hrel
      by_cases hlt : k < m
      · obtain ⟨bl, off, rfl, hbl, hcells⟩ := HA.out (by omega)
        obtain ⟨r0, r1⟩ := hcells k (by omega)
        obtain ⟨z0, z1⟩ := HZ.out k (by omega)
        have hbb := ht.out.base
        rw [← hbb.cell (p := ⟨bl, _, none⟩) hbl] at r0 r1
        obtain ⟨⟨p0, p1⟩, hAk⟩ : ∃ p, p = A k := ⟨_, rfl⟩
        rw [← hAk] at r0 r1 z0 z1
        simp only [] at r0 r1 z0 z1
        obtain ⟨z00, z01⟩ := z0; obtain ⟨z10, z11⟩ := z1
        have hkI : (k : Int) < (m : Int) := by omega
        have hP : PlayT wr.heap.size p0 p1 w.heap.size wr.heap.size w w.heap.size R C In c w1.heap.size L c (wr.alloc (.cells #[.int .i64 p0, .int .i64 p1] 27)) :=
          ⟨by simp, by simp, by simp, vr, ht.out.keeps (Nat.le_refl _) ((Keeps.refl _ _).alloc _)⟩
        have HP : Hid (PlayT wr.heap.size p0 p1 w.heap.size wr.heap.size w w.heap.size R C In c w1.heap.size L c (wr.alloc (.cells #[.int .i64 p0, .int .i64 p1] 27)).drew) := hP.keeps (Nat.le_refl _) ((Keeps.refl _ _).drew)
        have hadd := hlk.out.addB p0 p1
        have hlk2 := hlk.out.add p0 p1
        have hhas := hlk2.has p0 p1
        have htt : addTot R C In p0 p1 c = (if rfAddB R C L c p0 p1 then c + 1 else c) := hlk2.tot
        have hcl : (if rfAddB R C L c p0 p1 then c + 1 else c) ≤ k + 1 := by split <;> omega
        obtain ⟨In1, hIn1⟩ : ∃ x, addIn R C In p0 p1 = x := ⟨_, rfl⟩
        obtain ⟨c1, hc1⟩ : ∃ x, (if rfAddB R C L c p0 p1 then c + 1 else c) = x := ⟨_, rfl⟩
        obtain ⟨L1, hL1⟩ : ∃ x, (if rfAddB R C L c p0 p1 then addP L c (p0, p1) else L) = x := ⟨_, rfl⟩
        obtain ⟨ab, hab⟩ : ∃ x, addB R C In p0 p1 = x := ⟨_, rfl⟩
        obtain ⟨hb, hhb⟩ : ∃ x, hasB R C In1 p0 p1 = x := ⟨_, rfl⟩
        rw [hIn1, hc1, hL1] at hhas hlk2
        rw [hc1] at htt hcl
        rw [htt] at hlk2
        rw [hhb] at hhas
        rw [hab] at hadd
        have A1 : Hid (∀ W, Hid (PlayT wr.heap.size p0 p1 w.heap.size wr.heap.size w w.heap.size R C In c w1.heap.size L c W) → Calls Tryd.prog 9 #[.pointer (some ⟨w.heap.size, 0, none⟩), .int .i64 p0, .int .i64 p1] W fun e w' => e = .returned (.bool ab) ∧ PlayS wr.heap.size w1.heap.size p0 p1 w' ∧ Hid (PlayT wr.heap.size p0 p1 w.heap.size wr.heap.size w w.heap.size R C In1 c1 w1.heap.size L c w')) := fun W h => by
          have := h.out.add (Nat.le_refl _) (by omega) z10 z11
          rw [hab, hIn1, htt] at this
          exact this.mono fun e w' hh => ⟨hh.1, hh.2.s, hh.2⟩
        have A2 : Hid (∀ W, Hid (PlayT wr.heap.size p0 p1 w.heap.size wr.heap.size w w.heap.size R C In1 c1 w1.heap.size L c W) → Calls Tryd.prog 10 #[.pointer (some ⟨w1.heap.size, 0, none⟩), .int .i64 p0, .int .i64 p1] W fun e w' => e = .returned (.bool ab) ∧ PlayS wr.heap.size w1.heap.size p0 p1 w' ∧ Hid (PlayR wr.heap.size p0 p1 w.heap.size w w.heap.size R C In1 c1 w1.heap.size L1 c1 w')) := fun W h => by
          have := h.out.radd (Nat.le_refl _) (by omega)
          rw [hadd] at this
          rw [hadd] at hc1 hL1
          rw [hc1, hL1] at this
          exact this.mono fun e w' hh => ⟨hh.1, hh.2.choose_spec.s, hh.2⟩
        have A3 : Hid (∀ W, Hid (PlayR wr.heap.size p0 p1 w.heap.size w w.heap.size R C In1 c1 w1.heap.size L1 c1 W) → Calls Tryd.prog 11 #[.pointer (some ⟨w.heap.size, 0, none⟩), .int .i64 p0, .int .i64 p1] W fun e w' => e = .returned (.bool hb) ∧ PlayS wr.heap.size w1.heap.size p0 p1 w' ∧ Hid (PlayR wr.heap.size p0 p1 w.heap.size w w.heap.size R C In1 c1 w1.heap.size L1 c1 w')) := fun W h => by
          obtain ⟨y, h0, h1, h2, vr2, s2⟩ := h.out
          have := s2.live.has p0 p1 z10 z11
          rw [hhb] at this
          exact this.mono fun e w' hh => by
            obtain ⟨rfl, rfl⟩ := hh
            exact ⟨rfl, h.out.choose_spec.s, h.out⟩
        have A4 : Hid (∀ W, Hid (PlayR wr.heap.size p0 p1 w.heap.size w w.heap.size R C In1 c1 w1.heap.size L1 c1 W) → Calls Tryd.prog 12 #[.pointer (some ⟨w1.heap.size, 0, none⟩), .int .i64 p0, .int .i64 p1] W fun e w' => e = .returned (.bool hb) ∧ PlayS wr.heap.size w1.heap.size p0 p1 w' ∧ Hid (PlayR wr.heap.size p0 p1 w.heap.size w w.heap.size R C In1 c1 w1.heap.size L1 c1 w')) := fun W h => by
          obtain ⟨y, hp⟩ := h.out
          have hp' := hp
          obtain ⟨h0, h1, h2, vr2, s2⟩ := hp'
          have := rfhas_spec s2.ref (by omega) p0 p1
          rw [hhas] at this
          exact this.mono fun e w' hh => by
            have hq := hp.keeps (Nat.le_refl _) (Keeps.of_below hh.2 (Nat.le_refl _))
            exact ⟨hh.1, hq.s, ⟨y, hq⟩⟩
        have A5 : Hid (∀ W, Hid (PlayR wr.heap.size p0 p1 w.heap.size w w.heap.size R C In1 c1 w1.heap.size L1 c1 W) → Calls Tryd.prog 13 #[.pointer (some ⟨w.heap.size, 0, none⟩)] W fun e w' => e = .returned (.int .i64 c1) ∧ W = w') := fun W h => by
          obtain ⟨y, h0, h1, h2, vr2, s2⟩ := h.out
          exact s2.live.total
        have HS0 := Lib.hid HP.out.s
        have HLK := Lib.hid hlk2
        have Hcl := Lib.hid hcl
        clear hIn1 hc1 hL1 hab hhb hhas htt hcl hadd hlk2 hP hbb hcells hAk ht hlk
        go_upto_region 8 with fail
        go_cut [71] (fun t wx => t = .bool false ∧ Hid (PlayR wr.heap.size p0 p1 w.heap.size w w.heap.size R C In1 c1 w1.heap.size L1 c1 wx))
        case first =>
          clear r0 r1
          refine wp_region_noPanic ?_
          refine wp_region_held_drew (S := fun w' => w'.cell? ⟨wr.heap.size, 0, none⟩ = some (.int .i64 p0) ∧ w'.cell? ⟨wr.heap.size, 1, none⟩ = some (.int .i64 p1)) (by kernel_rfl) ⟨HS0.out.1, HS0.out.2.1⟩ (fun hHeld => ?_)
          refine wpAnyH_take_at (i := 0) (v := ?v0) rfl (by kernel_rfl) (by kernel_rfl) (by kernel_rfl) (fun _ _ _ h => h) (Or.inl ⟨by rfl, ?y0⟩) hHeld ?r0
          case y0 => (intro w hSw; (try dsimp only at hSw); go_simp; first | done | with_reducible rfl)
          (try simp only [Act.put, List.setIfInBounds_toArray, List.set_cons_zero, List.set_cons_succ])
          refine wpAnyH_take_at (i := 1) (v := ?v1) rfl (by kernel_rfl) (by kernel_rfl) (by kernel_rfl) (fun _ _ _ h => h) (Or.inl ⟨by rfl, ?y1⟩) hHeld ?r1
          case y1 => (intro w hSw; (try dsimp only at hSw); go_simp; first | done | with_reducible rfl)
          (try simp only [Act.put, List.setIfInBounds_toArray, List.set_cons_zero, List.set_cons_succ])
          refine wpAnyH_take_at (i := 2) (v := ?v2) rfl (by kernel_rfl) (by kernel_rfl) (by kernel_rfl) (fun _ _ _ h => h) (Or.inl ⟨by rfl, ?y2⟩) hHeld ?r2
          case y2 => (intro w hSw; (try dsimp only at hSw); go_simp; first | done | with_reducible rfl)
          (try simp only [Act.put, List.setIfInBounds_toArray, List.set_cons_zero, List.set_cons_succ])
          refine wpAnyH_take_at (i := 3) (v := ?v3) rfl (by kernel_rfl) (by kernel_rfl) (by kernel_rfl) (fun _ _ _ h => h) (Or.inl ⟨by rfl, ?y3⟩) hHeld ?r3
          case y3 => (intro w hSw; (try dsimp only at hSw); go_simp; first | done | with_reducible rfl)
          (try simp only [Act.put, List.setIfInBounds_toArray, List.set_cons_zero, List.set_cons_succ])
          refine wpAnyH_take_at (i := 4) (v := ?v4) rfl (by kernel_rfl) (by kernel_rfl) (by kernel_rfl) (fun _ _ _ h => h) (Or.inl ⟨by rfl, ?y4⟩) hHeld ?r4
          case y4 => (intro w hSw; (try dsimp only at hSw); go_simp; first | done | with_reducible rfl)
          (try simp only [Act.put, List.setIfInBounds_toArray, List.set_cons_zero, List.set_cons_succ])
          refine wpAnyH_take_at (i := 6) (v := ?v6) rfl (by kernel_rfl) (by kernel_rfl) (by kernel_rfl) (fun _ _ _ h => h) (Or.inl ⟨by rfl, ?y6⟩) hHeld ?r6
          case y6 => (intro w hSw; (try dsimp only at hSw); go_simp; first | done | with_reducible rfl)
          (try simp only [Act.put, List.setIfInBounds_toArray, List.set_cons_zero, List.set_cons_succ])
          refine wpAnyH_take_at (i := 7) (v := ?v7) rfl (by kernel_rfl) (by kernel_rfl) (by kernel_rfl) (fun _ _ _ h => h) (Or.inl ⟨by rfl, ?y7⟩) hHeld ?r7
          case y7 => (intro w hSw; (try dsimp only at hSw); go_simp; first | done | with_reducible rfl)
          (try simp only [Act.put, List.setIfInBounds_toArray, List.set_cons_zero, List.set_cons_succ])
          refine wpAnyH_take_at (i := 8) (v := ?v8) rfl (by kernel_rfl) (by kernel_rfl) (by kernel_rfl) (fun _ _ _ h => h) (Or.inl ⟨by rfl, ?y8⟩) hHeld ?r8
          case y8 => (intro w hSw; (try dsimp only at hSw); go_simp; first | done | with_reducible rfl)
          (try simp only [Act.put, List.setIfInBounds_toArray, List.set_cons_zero, List.set_cons_succ])
          refine wpAnyH_take_at (i := 9) (v := ?v9) rfl (by kernel_rfl) (by kernel_rfl) (by kernel_rfl) (fun _ _ _ h => h) (Or.inl ⟨by rfl, ?y9⟩) hHeld ?r9
          case y9 => (intro w hSw; (try dsimp only at hSw); go_simp; first | done | with_reducible rfl)
          (try simp only [Act.put, List.setIfInBounds_toArray, List.set_cons_zero, List.set_cons_succ])
          refine wpAnyH_take_at (i := 10) (v := ?v10) rfl (by kernel_rfl) (by kernel_rfl) (by kernel_rfl) (fun _ _ _ h => h) (Or.inl ⟨by rfl, ?y10⟩) hHeld ?r10
          case y10 => (intro w hSw; (try dsimp only at hSw); go_simp; first | done | with_reducible rfl)
          (try simp only [Act.put, List.setIfInBounds_toArray, List.set_cons_zero, List.set_cons_succ])
          refine wpAnyH_one (i := 5) (by kernel_rfl) rfl (fun K hK => ?_)
          go_simp
          refine (A1.out _ HP).mono ?_
          rintro e wA ⟨rfl, hsA, hstA⟩
          refine hK.out _ _ ?s5 (fun hHeld => ?_)
          case s5 => exact ⟨hsA.1, hsA.2.1⟩
          clear hK K
          (try simp only [Act.put, List.setIfInBounds_toArray, List.set_cons_zero, List.set_cons_succ])
          refine wpAnyH_one (i := 11) (by kernel_rfl) rfl (fun K hK => ?_)
          go_simp
          refine (A2.out _ hstA).mono ?_
          rintro e wB ⟨rfl, hsB, hstB⟩
          refine hK.out _ _ ?s11 (fun hHeld => ?_)
          case s11 => exact ⟨hsB.1, hsB.2.1⟩
          clear hK K
          (try simp only [Act.put, List.setIfInBounds_toArray, List.set_cons_zero, List.set_cons_succ])
          refine wpAnyH_take_at (i := 12) (v := ?v12) rfl (by kernel_rfl) (by kernel_rfl) (by kernel_rfl) (fun _ _ _ h => h) (Or.inl ⟨by rfl, ?y12⟩) hHeld ?r12
          case y12 => (intro w hSw; (try dsimp only at hSw); go_simp; first | done | with_reducible rfl)
          (try simp only [Act.put, List.setIfInBounds_toArray, List.set_cons_zero, List.set_cons_succ])
          refine wpAnyH_take_at (i := 13) (v := ?v13) rfl (by kernel_rfl) (by kernel_rfl) (by kernel_rfl) (fun _ _ _ h => h) (Or.inl ⟨by rfl, ?y13⟩) hHeld ?r13
          case y13 => (intro w hSw; (try dsimp only at hSw); go_simp; first | done | with_reducible rfl)
          (try simp only [Act.put, List.setIfInBounds_toArray, List.set_cons_zero, List.set_cons_succ])
          refine wpAnyH_take_at (i := 14) (v := ?v14) rfl (by kernel_rfl) (by kernel_rfl) (by kernel_rfl) (fun _ _ _ h => h) (Or.inl ⟨by rfl, ?y14⟩) hHeld ?r14
          case y14 => (intro w hSw; (try dsimp only at hSw); go_simp; first | done | with_reducible rfl)
          (try simp only [Act.put, List.setIfInBounds_toArray, List.set_cons_zero, List.set_cons_succ])
          refine wpAnyH_take_at (i := 15) (v := ?v15) rfl (by kernel_rfl) (by kernel_rfl) (by kernel_rfl) (fun _ _ _ h => h) (Or.inl ⟨by rfl, ?y15⟩) hHeld ?r15
          case y15 => (intro w hSw; (try dsimp only at hSw); go_simp; first | done | with_reducible rfl)
          (try simp only [Act.put, List.setIfInBounds_toArray, List.set_cons_zero, List.set_cons_succ])
          refine wpAnyH_take_at (i := 16) (v := ?v16) rfl (by kernel_rfl) (by kernel_rfl) (by kernel_rfl) (fun _ _ _ h => h) (Or.inl ⟨by rfl, ?y16⟩) hHeld ?r16
          case y16 => (intro w hSw; (try dsimp only at hSw); go_simp; first | done | with_reducible rfl)
          (try simp only [Act.put, List.setIfInBounds_toArray, List.set_cons_zero, List.set_cons_succ])
          refine wpAnyH_take_at (i := 17) (v := ?v17) rfl (by kernel_rfl) (by kernel_rfl) (by kernel_rfl) (fun _ _ _ h => h) (Or.inl ⟨by rfl, ?y17⟩) hHeld ?r17
          case y17 => (intro w hSw; (try dsimp only at hSw); go_simp; first | done | with_reducible rfl)
          (try simp only [Act.put, List.setIfInBounds_toArray, List.set_cons_zero, List.set_cons_succ])
          refine wpAnyH_take_at (i := 18) (v := ?v18) rfl (by kernel_rfl) (by kernel_rfl) (by kernel_rfl) (fun _ _ _ h => h) (Or.inl ⟨by rfl, ?y18⟩) hHeld ?r18
          case y18 => (intro w hSw; (try dsimp only at hSw); go_simp; first | done | with_reducible rfl)
          (try simp only [Act.put, List.setIfInBounds_toArray, List.set_cons_zero, List.set_cons_succ])
          refine wpAnyH_take_at (i := 21) (v := ?v21) rfl (by kernel_rfl) (by kernel_rfl) (by kernel_rfl) (fun _ _ _ h => h) (Or.inl ⟨by rfl, ?y21⟩) hHeld ?r21
          case y21 => (intro w hSw; (try dsimp only at hSw); go_simp; first | done | with_reducible rfl)
          (try simp only [Act.put, List.setIfInBounds_toArray, List.set_cons_zero, List.set_cons_succ])
          refine wpAnyH_take_at (i := 22) (v := ?v22) rfl (by kernel_rfl) (by kernel_rfl) (by kernel_rfl) (fun _ _ _ h => h) (Or.inl ⟨by rfl, ?y22⟩) hHeld ?r22
          case y22 => (intro w hSw; (try dsimp only at hSw); go_simp; first | done | with_reducible rfl)
          (try simp only [Act.put, List.setIfInBounds_toArray, List.set_cons_zero, List.set_cons_succ])
          refine wpAnyH_take_at (i := 23) (v := ?v23) rfl (by kernel_rfl) (by kernel_rfl) (by kernel_rfl) (fun _ _ _ h => h) (Or.inl ⟨by rfl, ?y23⟩) hHeld ?r23
          case y23 => (intro w hSw; (try dsimp only at hSw); go_simp; first | done | with_reducible rfl)
          (try simp only [Act.put, List.setIfInBounds_toArray, List.set_cons_zero, List.set_cons_succ])
          refine wpAnyH_take_at (i := 24) (v := ?v24) rfl (by kernel_rfl) (by kernel_rfl) (by kernel_rfl) (fun _ _ _ h => h) (Or.inl ⟨by rfl, ?y24⟩) hHeld ?r24
          case y24 => (intro w hSw; (try dsimp only at hSw); go_simp; first | done | with_reducible rfl)
          (try simp only [Act.put, List.setIfInBounds_toArray, List.set_cons_zero, List.set_cons_succ])
          refine wpAnyH_take_at (i := 25) (v := ?v25) rfl (by kernel_rfl) (by kernel_rfl) (by kernel_rfl) (fun _ _ _ h => h) (Or.inl ⟨by rfl, ?y25⟩) hHeld ?r25
          case y25 => (intro w hSw; (try dsimp only at hSw); go_simp; first | done | with_reducible rfl)
          (try simp only [Act.put, List.setIfInBounds_toArray, List.set_cons_zero, List.set_cons_succ])
          refine wpAnyH_one (i := 19) (by kernel_rfl) rfl (fun K hK => ?_)
          go_simp
          refine (A3.out _ hstB).mono ?_
          rintro e wC ⟨rfl, hsC, hstC⟩
          refine hK.out _ _ ?s19 (fun hHeld => ?_)
          case s19 => exact ⟨hsC.1, hsC.2.1⟩
          clear hK K
          (try simp only [Act.put, List.setIfInBounds_toArray, List.set_cons_zero, List.set_cons_succ])
          refine wpAnyH_take_at (i := 20) (v := ?v20) rfl (by kernel_rfl) (by kernel_rfl) (by kernel_rfl) (fun _ _ _ h => h) (Or.inl ⟨by rfl, ?y20⟩) hHeld ?r20
          case y20 => (intro w hSw; (try dsimp only at hSw); go_simp; first | done | with_reducible rfl)
          (try simp only [Act.put, List.setIfInBounds_toArray, List.set_cons_zero, List.set_cons_succ])
          refine wpAnyH_one (i := 26) (by kernel_rfl) rfl (fun K hK => ?_)
          go_simp
          refine (A4.out _ hstC).mono ?_
          rintro e wD ⟨rfl, hsD, hstD⟩
          refine hK.out _ _ ?s26 (fun hHeld => ?_)
          case s26 => exact ⟨hsD.1, hsD.2.1⟩
          clear hK K
          (try simp only [Act.put, List.setIfInBounds_toArray, List.set_cons_zero, List.set_cons_succ])
          obtain ⟨aoD, cpD, hcD⟩ : ∃ ao cp, wD.cell? ⟨w1.heap.size, 2, none⟩ = some (.slice ao c1 cp) := ⟨slAo w1.heap.size wD, slC w1.heap.size wD, by rw [hsD.2.2, hstD.out.choose_spec.len]⟩
          have HcD := Lib.hid hcD
          refine wpAnyH_change (S' := fun w' => w'.cell? ⟨wr.heap.size, 0, none⟩ = some (.int .i64 p0) ∧ w'.cell? ⟨wr.heap.size, 1, none⟩ = some (.int .i64 p1) ∧ w'.cell? ⟨w1.heap.size, 2, none⟩ = some (.slice aoD c1 cpD)) (fun _ h => ⟨h.1, h.2.1⟩) _ _ _ _ ?_
          replace hHeld := (⟨hHeld.1, hHeld.2, hcD⟩ : wD.cell? ⟨wr.heap.size, 0, none⟩ = some (.int .i64 p0) ∧ wD.cell? ⟨wr.heap.size, 1, none⟩ = some (.int .i64 p1) ∧ wD.cell? ⟨w1.heap.size, 2, none⟩ = some (.slice aoD c1 cpD))
          clear hsA hsB hsC hsD hcD
          refine wpAnyH_take_at (i := 27) (v := ?v27) rfl (by kernel_rfl) (by kernel_rfl) (by kernel_rfl) (fun _ _ _ h => h) (Or.inl ⟨by rfl, ?y27⟩) hHeld ?r27
          case y27 => (intro w hSw; (try dsimp only at hSw); go_simp; first | done | with_reducible rfl)
          (try simp only [Act.put, List.setIfInBounds_toArray, List.set_cons_zero, List.set_cons_succ])
          refine wpAnyH_take_at (i := 28) (v := ?v28) rfl (by kernel_rfl) (by kernel_rfl) (by kernel_rfl) (fun _ _ _ h => h) (Or.inl ⟨by rfl, ?y28⟩) hHeld ?r28
          case y28 => (intro w hSw; (try dsimp only at hSw); go_simp; first | done | with_reducible rfl)
          (try simp only [Act.put, List.setIfInBounds_toArray, List.set_cons_zero, List.set_cons_succ])
          refine wpAnyH_take_at (i := 29) (v := ?v29) rfl (by kernel_rfl) (by kernel_rfl) (by kernel_rfl) (fun _ _ _ h => h) (Or.inl ⟨by rfl, ?y29⟩) hHeld ?r29
          case y29 => (intro w hSw; (try dsimp only at hSw); go_simp; first | done | with_reducible rfl)
          (try simp only [Act.put, List.setIfInBounds_toArray, List.set_cons_zero, List.set_cons_succ])
          refine wpAnyH_take_at (i := 30) (v := ?v30) rfl (by kernel_rfl) (by kernel_rfl) (by kernel_rfl) (fun _ _ _ h => h) (Or.inl ⟨by rfl, ?y30⟩) hHeld ?r30
          case y30 => (intro w hSw; (try dsimp only at hSw); go_simp; first | done | with_reducible rfl)
          (try simp only [Act.put, List.setIfInBounds_toArray, List.set_cons_zero, List.set_cons_succ])
          refine wpAnyH_take_at (i := 31) (v := ?v31) rfl (by kernel_rfl) (by kernel_rfl) (by kernel_rfl) (fun _ _ _ h => h) (Or.inl ⟨by rfl, ?y31⟩) hHeld ?r31
          case y31 => (intro w hSw; (try dsimp only at hSw); go_simp; first | done | with_reducible rfl)
          (try simp only [Act.put, List.setIfInBounds_toArray, List.set_cons_zero, List.set_cons_succ])
          refine wpAnyH_take_at (i := 33) (v := ?v33) rfl (by kernel_rfl) (by kernel_rfl) (by kernel_rfl) (fun _ _ _ h => h) (Or.inl ⟨by rfl, ?y33⟩) hHeld ?r33
          case y33 => (intro w hSw; (try dsimp only at hSw); go_simp; first | done | with_reducible rfl)
          (try simp only [Act.put, List.setIfInBounds_toArray, List.set_cons_zero, List.set_cons_succ])
          refine wpAnyH_take_at (i := 34) (v := ?v34) rfl (by kernel_rfl) (by kernel_rfl) (by kernel_rfl) (fun _ _ _ h => h) (Or.inl ⟨by rfl, ?y34⟩) hHeld ?r34
          case y34 => (intro w hSw; (try dsimp only at hSw); go_simp; first | done | with_reducible rfl)
          (try simp only [Act.put, List.setIfInBounds_toArray, List.set_cons_zero, List.set_cons_succ])
          refine wpAnyH_take_at (i := 35) (v := ?v35) rfl (by kernel_rfl) (by kernel_rfl) (by kernel_rfl) (fun _ _ _ h => h) (Or.inl ⟨by rfl, ?y35⟩) hHeld ?r35
          case y35 => (intro w hSw; (try dsimp only at hSw); go_simp; first | done | with_reducible rfl)
          (try simp only [Act.put, List.setIfInBounds_toArray, List.set_cons_zero, List.set_cons_succ])
          refine wpAnyH_take_at (i := 36) (v := ?v36) rfl (by kernel_rfl) (by kernel_rfl) (by kernel_rfl) (fun _ _ _ h => h) (Or.inl ⟨by rfl, ?y36⟩) hHeld ?r36
          case y36 => (intro w hSw; (try dsimp only at hSw); go_simp; first | done | with_reducible rfl)
          (try simp only [Act.put, List.setIfInBounds_toArray, List.set_cons_zero, List.set_cons_succ])
          refine wpAnyH_take_at (i := 37) (v := ?v37) rfl (by kernel_rfl) (by kernel_rfl) (by kernel_rfl) (fun _ _ _ h => h) (Or.inl ⟨by rfl, ?y37⟩) hHeld ?r37
          case y37 => (intro w hSw; (try dsimp only at hSw); go_simp; first | done | with_reducible rfl)
          (try simp only [Act.put, List.setIfInBounds_toArray, List.set_cons_zero, List.set_cons_succ])
          refine wpAnyH_one (i := 32) (by kernel_rfl) rfl (fun K hK => ?_)
          go_simp
          refine (A5.out _ hstD).mono ?_
          rintro e wE ⟨rfl, rfl⟩
          refine hK.out _ _ ?s32 (fun hHeld => ?_)
          case s32 => exact hHeld
          clear hK K
          (try simp only [Act.put, List.setIfInBounds_toArray, List.set_cons_zero, List.set_cons_succ])
          refine wpAnyH_take_at (i := 38) (v := ?v38) rfl (by kernel_rfl) (by kernel_rfl) (by kernel_rfl) (fun _ _ _ h => h) (Or.inl ⟨by rfl, ?y38⟩) hHeld ?r38
          case y38 => (intro w hSw; (try dsimp only at hSw); go_simp; first | done | with_reducible rfl)
          (try simp only [Act.put, List.setIfInBounds_toArray, List.set_cons_zero, List.set_cons_succ])
          refine wpAnyH_take_at (i := 39) (v := ?v39) rfl (by kernel_rfl) (by kernel_rfl) (by kernel_rfl) (fun _ _ _ h => h) (Or.inl ⟨by rfl, ?y39⟩) hHeld ?r39
          case y39 => (intro w hSw; (try dsimp only at hSw); go_simp; first | done | with_reducible rfl)
          (try simp only [Act.put, List.setIfInBounds_toArray, List.set_cons_zero, List.set_cons_succ])
          refine wpAnyH_done (by kernel_rfl) ?_ _
          refine NoPanic.normal ?_
          go_wp2_with fail
          go_meet
          exact ⟨rfl, hstD⟩
        case rest =>
          clear A1 A2 A3 A4 A5 HS0 HP r0 r1
          obtain ⟨rfl, hst⟩ := hcut
          obtain ⟨y8, hp8⟩ := hst.out
          have hbase : Below w.heap.size w wc := by
            obtain ⟨_, _, _, vr8, s8⟩ := hp8
            exact s8.base
          have HST := hst
          clear hst
          obtain ⟨bl', off', he, hbl', hcells⟩ := HA.out (by omega)
          cases he
          have hjm : (k + 1) % m < m := Nat.mod_lt _ (by omega)
          obtain ⟨j, hj⟩ : ∃ j, (k + 1) % m = j := ⟨_, rfl⟩
          have htm : Int.tmod ((k : Int) + 1) (m : Int) = (j : Int) := by
            rw [Int.tmod_eq_emod_of_nonneg (by omega), ← hj]; simp
          rw [hj] at hjm
          obtain ⟨r0, r1⟩ := hcells j (by omega)
          rw [← hbase.cell (p := ⟨bl, _, none⟩) hbl] at r0 r1
          obtain ⟨⟨q0, q1⟩, hAj⟩ : ∃ p, p = A j := ⟨_, rfl⟩
          rw [← hAj] at r0 r1
          simp only [] at r0 r1
          have hjI0 : (0 : Int) ≤ (j : Int) := by omega
          have hjI : (j : Int) < (m : Int) := by omega
          have hm0 : (m : Int) ≠ 0 := by omega
          clear hcells hAj hj hbase
          go_upto_region 11 with fail
          have HA0 : Hid (Ask wr.heap.size wc.heap.size p0 p1 q0 w w.heap.size R C In1 c1 w1.heap.size L1 c1 (wc.alloc (.cells #[.int .i64 q0, .int .i64 q1] 27)).drew) :=
            ⟨⟨y8, hp8.keeps (Nat.le_refl _) (((Keeps.refl _ _).alloc _).drew)⟩, by simp, by simp⟩
          have hcn : c1 ≤ 1000000000 := by have := Hcl.out; omega
          clear r0 r1 hp8 HST htm hjI0 hjI hm0 hjm hbl' HZ
          go_cut [131] (fun t wx => t = .bool false ∧ Hid (Ask wr.heap.size wc.heap.size p0 p1 q0 w w.heap.size R C In1 c1 w1.heap.size L1 c1 wx))
          case first =>
            go_region_held3 (fun w' => w'.cell? ⟨wr.heap.size, 0, none⟩ = some (.int .i64 p0) ∧ w'.cell? ⟨wc.heap.size, 0, none⟩ = some (.int .i64 q0)) (exact Ask.s (by assumption)) (first
              | (go_at_call 14; refine (Ask.len (by assumption) _).mono ?_; rintro e w' ⟨rfl, hk'⟩)
              | (go_at_call 16; refine (Ask.inside (by assumption) _ _).mono ?_; rintro e w' ⟨rfl, hk'⟩)
              | (go_at_call 18; refine (Ask.meets (by assumption) _ _).mono ?_; rintro e w' ⟨rfl, hk'⟩)
              | (go_at_call 17; refine (Ask.rinside (by assumption) HLK hcn _ _).mono ?_; rintro e w' ⟨rfl, hk'⟩)
              | (go_at_call 19; refine (Ask.rmeets (by assumption) HLK hcn _ _).mono ?_; rintro e w' ⟨rfl, hk'⟩)
              | (go_at_call 21; refine (Ask.list (by assumption) HT _).mono ?_; rintro e w' ⟨aoA, cpA, rfl, hk', hrA⟩)
              | (go_at_call 15; refine (Ask.rlist2 (by assumption) HLK hcn _ (by assumption)).mono ?_; rintro e w' ⟨aoB, cpB, rfl, hk', hrB, hrA'⟩)
              | (go_at_call 15; refine (Ask.rlist (by assumption) HLK hcn _).mono ?_; rintro e w' ⟨aoB, cpB, rfl, hk', hrB, _⟩)
              | (go_at_call 20; refine (Ask.same (by assumption) (by assumption) (by assumption)).mono ?_; rintro e w' ⟨rfl, hk'⟩))
            all_goals (go_wp2_with fail; go_meet; refine ⟨rfl, ?_⟩; assumption)
          case rest =>
            obtain ⟨rfl, hst⟩ := hcut
            obtain ⟨⟨y9, _, _, _, vr9, s9⟩, _⟩ := hst.out
            have T9 := Lib.hid s9.tight
            clear s9 hst y9 HA0 HA
            go_wp2_with fail
            go_roundg (m - (k + 1))
            case measure => omega
            case rel => exact ⟨k + 1, by omega, rfl, by go_num, In1, L1, c1, vr9, Hcl.out, T9, HLK⟩
      · obtain rfl : k = m := by omega
        have HT2 : Hid (Two w w.heap.size R C In c w1.heap.size L c wr.drew) := ⟨_, vr, ht.out.keeps (Nat.le_refl _) ((Keeps.refl _ _).drew)⟩
        clear HA HZ hlk ht
        go_upto_region 14 with fail
        go_region_held3 (fun w' => w'.cell? ⟨w1.heap.size, 0, none⟩ = some (.int .i64 R) ∧ w'.cell? ⟨w1.heap.size, 1, none⟩ = some (.int .i64 C)) (exact Two.s (by assumption)) (first
          | (go_at_call 22; refine (Two.rows (by assumption)).mono ?_; rintro e w' ⟨rfl, hk'⟩)
          | (go_at_call 23; refine (Two.cols (by assumption)).mono ?_; rintro e w' ⟨rfl, hk'⟩)
          | (go_at_call 24; refine (Two.lives (by assumption) (setLives_any _)).mono ?_; rintro e w' ⟨rfl, hk'⟩))
        go_wp2_with fail
        go_ret
        exact ⟨rfl, Two.base (by assumption)⟩
end Go.Proofs.YtmljmpjpdgijlaaDoor
