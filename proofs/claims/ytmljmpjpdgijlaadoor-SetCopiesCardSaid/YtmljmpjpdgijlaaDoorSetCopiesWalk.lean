/-
  The walk of the law SetCopies.
-/
import Derived.Test.YtmljmpjpdgijlaaDoorSetNoneCopy
import Derived.Test.YtmljmpjpdgijlaaDoorSetSumsPairs
import Derived.Test.YtmljmpjpdgijlaaDoorSetList
import Derived.Deep.RegionWith
import Derived.Deep.RegionHeld3
import Derived.Test.YtmljmpjpdgijlaaDoorKit3
set_option linter.unusedVariables false
set_option linter.unusedSimpArgs false
set_option linter.unnecessarySimpa false
namespace Go.Proofs.YtmljmpjpdgijlaaDoor
open Go.ChangeShapes Go.WideShapes Go.ChangeAt Go.RowKit Go.Deep SetPlain
theorem newFamAt (rows cols : Int) (R C : Nat) (hR : Within rows 5000 R) (hC : Within cols 1000 C) (w : World) : Calls Tryd.prog 7 #[.int .i64 rows, .int .i64 cols] w fun e w' => ∃ b, e = .returned (.pointer (some ⟨b, 0, none⟩)) ∧ Hid (LiveFam w.heap.size w b R C (fun _ _ => false) 0 w') :=
  (newFam rows cols R C hR hC w).mono fun e w' h => ⟨_, h.1, h.2⟩
theorem Twin.hd {z : Nat} {w : World} {bx b : Nat} {p0 p1 : Int} {R C : Nat} {In : Nat → Nat → Bool} {tot : Nat} {b2 : Nat} {In2 : Nat → Nat → Bool} {tot2 : Nat} {W : World} (hz : z ≤ w.heap.size) (h : Hid (Twin z w bx b p0 p1 R C In tot b2 In2 tot2 W)) : Hid (Twin z w bx b p0 p1 R C In tot b2 In2 tot2 W.drew) := h.out.drew hz ((Keeps.refl _ _).drew)
theorem base_none {z : Nat} {w W : World} {K : Nat} {a : Array Value} {v : Value} (h : Hid (Below z w W)) (hc : Calls Tryd.prog K a W fun e w' => e = .returned v ∧ W = w') : Calls Tryd.prog K a W fun e w' => e = .returned v ∧ Hid (Below z w w') :=
  hc.mono fun e w' x => ⟨x.1, x.2 ▸ h⟩
theorem base_below {z : Nat} {w W : World} {K : Nat} {a : Array Value} {v : Value} (hz : z ≤ w.heap.size) (h : Hid (Below z w W)) (hc : Calls Tryd.prog K a W fun e w' => e = .returned v ∧ Below W.heap.size W w') : Calls Tryd.prog K a W fun e w' => e = .returned v ∧ Hid (Below z w w') :=
  hc.mono fun e w' x => ⟨x.1, h.out.trans ((Keeps.of_below (S := fun _ => False) x.2 (Nat.le_refl _)).below (Nat.le_trans hz h.out.size) (fun _ _ x => x))⟩
theorem base_copy {z : Nat} {w W : World} (hz : z ≤ w.heap.size) (h : Hid (Below z w W)) : Calls Tryd.prog 25 #[.pointer none] W fun e w' => ∃ b, e = .returned (.pointer (some ⟨b, 0, none⟩)) ∧ Hid (w'.cell? ⟨b, 0, none⟩ = some (.int .i64 (0 : Nat))) ∧ Hid (Below z w w') :=
  (none_copy W).mono fun e w' ⟨b, he, hc, hb⟩ => ⟨b, he, hc, h.out.trans ((Keeps.of_below (S := fun _ => False) hb (Nat.le_refl _)).below (Nat.le_trans hz h.out.size) (fun _ _ x => x))⟩

set_option maxRecDepth 100000 in
set_option maxHeartbeats 6400000 in
theorem setCopies_core (w : World) (rows : Int) (hr0 : -9223372036854775808 ≤ rows) (hr1 : rows ≤ 9223372036854775807) (cols : Int) (hc0 : -9223372036854775808 ≤ cols) (hc1 : cols ≤ 9223372036854775807) (ao : Option Addr) (n cap : Nat) (G : Nat → Nat → Value) (Rw : IsRow w [.int .i64, .int .i64] ao n cap G) (hT : TabIn w) :
    Calls Tryd.prog 4 #[.int .i64 rows, .int .i64 cols, .slice ao n cap] w fun e w' => e = .returned (.bool true) ∧ Below w.heap.size w w' := by
  have hcap := Rw.le
  have hmax := Rw.max
  unfold maxLen at hmax
  obtain ⟨A, hZ, hA⟩ := Rw.pairs
  have HZ := Lib.hid hZ; have HA := Lib.hid hA
  clear Rw hZ hA hT
  go_enter Tryd.func4, Tryd.ntmps4
  go_upto_region 1 with fail
  go_cut [2] (fun s wx => ∃ m : Nat, s = .slice ao m cap ∧ m ≤ n ∧ m ≤ 60 ∧ w = wx)
  case first =>
    go_wp2
    all_goals (go_meet; first | exact ⟨n, rfl, by omega, by omega, rfl⟩ | exact ⟨60, rfl, by omega, by omega, rfl⟩)
  case rest =>
    obtain ⟨m, rfl, hmn, hm60, rfl⟩ := hcut
    obtain ⟨R, hR⟩ := within_cases rows 5000
    obtain ⟨C, hC⟩ := within_cases cols 1000
    have HN := Lib.hid (newFamAt rows cols R C hR hC w)
    clear hR hC hr0 hr1 hc0 hc1
    go_wp2_with fail
    refine HN.out.mono ?_
    rintro e w1 ⟨b, rfl, T1⟩
    clear HN
    go_wp2_with fail
    go_loopg [23] m (fun g s wr => ∃ k : Nat, k ≤ m ∧ g = m - k ∧ s = .int .i64 k ∧ ∃ (In : Nat → Nat → Bool) (c : Nat), c ≤ k ∧ Hid (LiveFam w.heap.size w b R C In c wr))
    case atStart => exact ⟨0, Nat.zero_le _, rfl, rfl, fun _ _ => false, 0, Nat.le_refl _, T1⟩
    case round =>
      clear T1
      obtain ⟨k, hk, rfl, rfl, In, c, hck, ht⟩ := hrel
      by_cases hlt : k < m
      · obtain ⟨bl, off, rfl, hbl, hcells⟩ := HA.out (by omega)
        obtain ⟨r0, r1⟩ := hcells k (by omega)
        obtain ⟨z0, z1⟩ := HZ.out k (by omega)
        have hbb := ht.out.base
        rw [← hbb.cell (p := ⟨bl, _, none⟩) hbl] at r0 r1
        obtain ⟨⟨p0, p1⟩, hAk⟩ : ∃ p, p = A k := ⟨_, rfl⟩
        rw [← hAk] at r0 r1 z0 z1
        simp only [] at r0 r1 z0 z1
        obtain ⟨z10, z11⟩ := z1
        have hkI : (k : Int) < (m : Int) := by omega
        have CP : Hid (∀ W, Keeps (fun _ => False) wr W → wr.heap.size < W.heap.size → W.cell? ⟨wr.heap.size, 0, none⟩ = some (.int .i64 p0) → W.cell? ⟨wr.heap.size, 1, none⟩ = some (.int .i64 p1) → Calls Tryd.prog 25 #[.pointer (some ⟨b, 0, none⟩)] W fun e w' => ∃ b2, e = .returned (.pointer (some ⟨b2, 0, none⟩)) ∧ Hid (Pre wr.heap.size w.heap.size w wr.heap.size b p0 p1 R C In c b2 w')) := fun W hk hx h0 h1 => twin_copy ht.out (Nat.le_refl _) hk hx h0 h1
        clear hbb hcells hAk z0 ht
        go_wp2_with fail
        refine (CP.out _ (by first | exact (Keeps.refl _ _).alloc _ | exact ((Keeps.refl _ _).alloc _).drew) (by simp) (by simp) (by simp)).mono ?_
        rintro e w2 ⟨b2, rfl, hpre⟩
        have hb0 := hpre.out.2.2.1
        have hb1 := hpre.out.2.2.2
        go_wp2_with fail
        refine (hpre.out.add (Nat.le_refl _) (Nat.le_refl _) (by omega) z10 z11).mono ?_
        rintro e w3 ⟨rfl, htw⟩
        clear hpre hb0 hb1 CP
        obtain ⟨In1, hIn1⟩ : ∃ x, addIn R C In p0 p1 = x := ⟨_, rfl⟩
        have hw1 : winTo In In1 C R = true := by rw [← hIn1]; exact win_more
        have hw2 : winTo In1 In C R = !addB R C In p0 p1 := by rw [← hIn1]; exact win_back
        rw [hIn1] at htw
        have hcI : (c : Int) ≤ 60 := by omega
        have hwt : IntKind.i64.wrap ((c : Int) + 1) = (c : Int) + 1 := IntWalk.i64_in _ (by omega)
        have hne1 : ((c : Int) == (c : Int) + 1) = false := by simp; omega
        cases hmo : addB R C In p0 p1 with
        | true =>
          have hh := add_not hmo
          have ht1 : addTot R C In p0 p1 c = c + 1 := by unfold addTot; rw [hmo]; rfl
          rw [hmo] at hw2
          rw [ht1] at htw
          have A1 : Hid (∀ W x y, Hid (Twin w.heap.size w wr.heap.size b p0 p1 R C In1 (c + 1) b2 In c W) → x = b2 → y = b → Calls Tryd.prog 26 #[.pointer (some ⟨x, 0, none⟩), .pointer (some ⟨y, 0, none⟩)] W fun e w' => e = .returned (.bool true) ∧ Hid (Twin w.heap.size w wr.heap.size b p0 p1 R C In1 (c + 1) b2 In c w')) := fun W x y h hx hy => by
            have := Twin.win h x y hx hy
            rw [hw1] at this
            exact this
          have A2 : Hid (∀ W x y, Hid (Twin w.heap.size w wr.heap.size b p0 p1 R C In1 (c + 1) b2 In c W) → x = b → y = b2 → Calls Tryd.prog 26 #[.pointer (some ⟨x, 0, none⟩), .pointer (some ⟨y, 0, none⟩)] W fun e w' => e = .returned (.bool false) ∧ Hid (Twin w.heap.size w wr.heap.size b p0 p1 R C In1 (c + 1) b2 In c w')) := fun W x y h hx hy => by
            have := Twin.back h x y hx hy
            rw [hw2] at this
            exact this
          have A3 : Hid (∀ W, Hid (Twin w.heap.size w wr.heap.size b p0 p1 R C In1 (c + 1) b2 In c W) → Calls Tryd.prog 11 #[.pointer (some ⟨b2, 0, none⟩), .int .i64 p0, .int .i64 p1] W fun e w' => e = .returned (.bool false) ∧ Hid (Twin w.heap.size w wr.heap.size b p0 p1 R C In1 (c + 1) b2 In c w')) := fun W h => by
            have := Twin.has h p0 p1 z10 z11
            rw [hh] at this
            exact this
          have A4 : Hid (∀ W x, Hid (Twin w.heap.size w wr.heap.size b p0 p1 R C In1 (c + 1) b2 In c W) → x = b → Calls Tryd.prog 13 #[.pointer (some ⟨x, 0, none⟩)] W fun e w' => e = .returned (.int .i64 ((c : Int) + 1)) ∧ Hid (Twin w.heap.size w wr.heap.size b p0 p1 R C In1 (c + 1) b2 In c w')) := fun W x h hx => Twin.total h x hx
          have A5 : Hid (∀ W x, Hid (Twin w.heap.size w wr.heap.size b p0 p1 R C In1 (c + 1) b2 In c W) → x = b2 → Calls Tryd.prog 13 #[.pointer (some ⟨x, 0, none⟩)] W fun e w' => e = .returned (.int .i64 c) ∧ Hid (Twin w.heap.size w wr.heap.size b p0 p1 R C In1 (c + 1) b2 In c w')) := fun W x h hx => Twin.total2 h x hx
          have htd := htw
          have hbx := Twin.s htd
          obtain ⟨hb0, hb1⟩ := hbx
          clear hw1 hw2 hh ht1 hmo hIn1 htw
          go_wp2_with fail
          refine (A1.out _ _ _ htd rfl rfl).mono ?_
          rintro e w4 ⟨rfl, h4⟩
          go_wp2_with fail
          refine (A2.out _ _ _ h4 rfl rfl).mono ?_
          rintro e w5 ⟨rfl, h5⟩
          obtain ⟨hb0, hb1⟩ := Twin.s h5
          go_wp2_with fail
          refine (A3.out _ h5).mono ?_
          rintro e w6 ⟨rfl, h6⟩
          go_wp2_with fail
          refine (A5.out _ _ h6 rfl).mono ?_
          rintro e w7 ⟨rfl, h7⟩
          go_wp2_with fail
          refine (A4.out _ _ h7 rfl).mono ?_
          rintro e w8 ⟨rfl, h8⟩
          have hgt : ¬ ((c : Int) > (c : Int) + 1) := by omega
          go_wp2_with fail
          refine (A4.out _ _ h8 rfl).mono ?_
          rintro e w9 ⟨rfl, h9⟩
          go_wp2_with fail
          refine (A5.out _ _ h9 rfl).mono ?_
          rintro e wA ⟨rfl, hA⟩
          by_cases hk0 : k = 0
          · subst hk0
            obtain rfl : c = 0 := by omega
            go_wp2_with fail
            refine (A5.out _ _ hA rfl).mono ?_
            rintro e wz ⟨rfl, hz⟩
            have hlv : Hid (LiveFam w.heap.size w b R C In1 (0 + 1) wz) := hz.out.live
            go_wp2_with fail
            go_roundg (m - (0 + 1))
            case measure => omega
            case rel => exact ⟨0 + 1, by omega, rfl, by go_num, In1, 0 + 1, by omega, hlv⟩
          · have hk1 : ¬ (k : Int) = 0 := by omega
            have hlv : Hid (LiveFam w.heap.size w b R C In1 (c + 1) wA) := hA.out.live
            go_wp2_with fail
            go_roundg (m - (k + 1))
            case measure => omega
            case rel => exact ⟨k + 1, by omega, rfl, by go_num, In1, c + 1, by omega, hlv⟩
        | false =>
          obtain ⟨hv, hhv⟩ : ∃ x, hasB R C In p0 p1 = x := ⟨_, rfl⟩
          have ht1 : addTot R C In p0 p1 c = c := by unfold addTot; rw [hmo]; rfl
          rw [hmo] at hw2
          rw [ht1] at htw
          have A1 : Hid (∀ W x y, Hid (Twin w.heap.size w wr.heap.size b p0 p1 R C In1 c b2 In c W) → x = b2 → y = b → Calls Tryd.prog 26 #[.pointer (some ⟨x, 0, none⟩), .pointer (some ⟨y, 0, none⟩)] W fun e w' => e = .returned (.bool true) ∧ Hid (Twin w.heap.size w wr.heap.size b p0 p1 R C In1 c b2 In c w')) := fun W x y h hx hy => by
            have := Twin.win h x y hx hy
            rw [hw1] at this
            exact this
          have A2 : Hid (∀ W x y, Hid (Twin w.heap.size w wr.heap.size b p0 p1 R C In1 c b2 In c W) → x = b → y = b2 → Calls Tryd.prog 26 #[.pointer (some ⟨x, 0, none⟩), .pointer (some ⟨y, 0, none⟩)] W fun e w' => e = .returned (.bool true) ∧ Hid (Twin w.heap.size w wr.heap.size b p0 p1 R C In1 c b2 In c w')) := fun W x y h hx hy => by
            have := Twin.back h x y hx hy
            rw [hw2] at this
            exact this
          have A3 : Hid (∀ W, Hid (Twin w.heap.size w wr.heap.size b p0 p1 R C In1 c b2 In c W) → Calls Tryd.prog 11 #[.pointer (some ⟨b2, 0, none⟩), .int .i64 p0, .int .i64 p1] W fun e w' => e = .returned (.bool hv) ∧ Hid (Twin w.heap.size w wr.heap.size b p0 p1 R C In1 c b2 In c w')) := fun W h => by
            have := Twin.has h p0 p1 z10 z11
            rw [hhv] at this
            exact this
          have A4 : Hid (∀ W x, Hid (Twin w.heap.size w wr.heap.size b p0 p1 R C In1 c b2 In c W) → x = b → Calls Tryd.prog 13 #[.pointer (some ⟨x, 0, none⟩)] W fun e w' => e = .returned (.int .i64 c) ∧ Hid (Twin w.heap.size w wr.heap.size b p0 p1 R C In1 c b2 In c w')) := fun W x h hx => Twin.total h x hx
          have A5 : Hid (∀ W x, Hid (Twin w.heap.size w wr.heap.size b p0 p1 R C In1 c b2 In c W) → x = b2 → Calls Tryd.prog 13 #[.pointer (some ⟨x, 0, none⟩)] W fun e w' => e = .returned (.int .i64 c) ∧ Hid (Twin w.heap.size w wr.heap.size b p0 p1 R C In1 c b2 In c w')) := fun W x h hx => Twin.total2 h x hx
          have htd := htw
          have hbx := Twin.s htd
          obtain ⟨hb0, hb1⟩ := hbx
          clear hhv hw1 hw2 ht1 hmo hIn1 htw
          go_wp2_with fail
          refine (A1.out _ _ _ htd rfl rfl).mono ?_
          rintro e w4 ⟨rfl, h4⟩
          go_wp2_with fail
          refine (A2.out _ _ _ h4 rfl rfl).mono ?_
          rintro e w5 ⟨rfl, h5⟩
          obtain ⟨hb0, hb1⟩ := Twin.s h5
          cases hv
          all_goals
            go_wp2_with fail
            refine (A3.out _ h5).mono ?_
            rintro e w6 ⟨rfl, h6⟩
            go_wp2_with fail
            refine (A5.out _ _ h6 rfl).mono ?_
            rintro e w7 ⟨rfl, h7⟩
            go_wp2_with fail
            refine (A4.out _ _ h7 rfl).mono ?_
            rintro e w8 ⟨rfl, h8⟩
            go_wp2_with fail
            refine (A4.out _ _ h8 rfl).mono ?_
            rintro e w9 ⟨rfl, h9⟩
            go_wp2_with fail
            refine (A5.out _ _ h9 rfl).mono ?_
            rintro e wA ⟨rfl, hA⟩
            by_cases hk0 : k = 0
            · subst hk0
              obtain rfl : c = 0 := by omega
              go_wp2_with fail
              refine (A5.out _ _ hA rfl).mono ?_
              rintro e wz ⟨rfl, hz⟩
              have hlv : Hid (LiveFam w.heap.size w b R C In1 0 wz) := hz.out.live
              go_wp2_with fail
              go_roundg (m - (0 + 1))
              case measure => omega
              case rel => exact ⟨0 + 1, by omega, rfl, by go_num, In1, 0, by omega, hlv⟩
            · have hk1 : ¬ (k : Int) = 0 := by omega
              have hlv : Hid (LiveFam w.heap.size w b R C In1 c wA) := hA.out.live
              go_wp2_with fail
              go_roundg (m - (k + 1))
              case measure => omega
              case rel => exact ⟨k + 1, by omega, rfl, by go_num, In1, c, by omega, hlv⟩
      · obtain rfl : k = m := by omega
        have hb : Hid (Below w.heap.size w wr) := ht.out.base
        clear HA HZ ht
        go_wp2_with fail
        refine (base_below (Nat.le_refl _) hb (none_add _)).mono ?_
        rintro e wa ⟨rfl, ha⟩
        go_wp2_with fail
        refine (base_none ha (none_has _)).mono ?_
        rintro e wb ⟨rfl, hb1⟩
        go_wp2_with fail
        refine (base_none hb1 (none_rows _)).mono ?_
        rintro e wc ⟨rfl, hc⟩
        go_wp2_with fail
        refine (base_none hc (none_cols _)).mono ?_
        rintro e wd ⟨rfl, hd⟩
        go_wp2_with fail
        refine (base_none hd (none_len _)).mono ?_
        rintro e we ⟨rfl, he⟩
        go_wp2_with fail
        refine (base_none he (none_total _)).mono ?_
        rintro e wf ⟨rfl, hf⟩
        go_wp2_with fail
        refine (base_none hf (none_list _)).mono ?_
        rintro e wg ⟨rfl, hg⟩
        go_wp2_with fail
        refine (base_none hg (none_within _)).mono ?_
        rintro e wh ⟨rfl, hh⟩
        go_wp2_with fail
        refine (base_none hh (none_inside _)).mono ?_
        rintro e wi ⟨rfl, hi⟩
        go_wp2_with fail
        refine (base_none hi (none_meets _)).mono ?_
        rintro e wj ⟨rfl, hj⟩
        go_wp2_with fail
        refine (base_copy (Nat.le_refl _) hj).mono ?_
        rintro e wk ⟨bc, rfl, hcell, hk'⟩
        go_wp2_with fail
        refine (base_none hk' (rows_cell _ bc 0 rfl _ hcell.out)).mono ?_
        rintro e wl ⟨rfl, hl⟩
        go_wp2_with fail
        refine (base_below (Nat.le_refl _) hl ((setLives_any _).mono fun e w' x => x)).mono ?_
        rintro e wm ⟨rfl, hm⟩
        go_wp2_with fail
        go_ret
        exact ⟨rfl, hm.out⟩
end Go.Proofs.YtmljmpjpdgijlaaDoor
