/-
  The walk of the law OrderMoves.
-/
import Derived.Test.YtipcgjigkipcpaaOrderMovesState
import Derived.Test.YtipcgjigkipcpaaOrdBits
import Derived.Test.YtipcgjigkipcpaaOrdInts
import Derived.Test.YtipcgjigkipcpaaItePlayRun
import Derived.Test.YtipcgjigkipcpaaItePlayOps
set_option linter.unusedVariables false
set_option linter.unusedSimpArgs false
set_option linter.unnecessarySimpa false
namespace Go.Proofs.Ytipcgjigkipcpaa
open Go.ChangeShapes Go.WideShapes Go.ChangeAt Go.RowKit Go.Deep NodePlain
set_option maxRecDepth 100000 in
set_option maxHeartbeats 3200000 in
theorem orderMoves_core (w : World) (X : Nat) (hX : X < 18446744073709551616) (ao : Option Addr) (n cap : Nat) (os : List OpR) (hos : os.length = n) (hO : OpRow w ao os) (hcap : n ≤ cap) (bo : Option Addr) (nb capb : Nat) (l : List Int) (hl : l.length = nb) (hR : ReadsI w (.slice bo nb capb) l) :
    Calls Try.prog 4 #[.int .u64 X, .slice ao n cap, .slice bo nb capb] w fun e w' => e = .returned (.bool true) ∧ Below w.heap.size w w' := by
  obtain ⟨k, hk⟩ : ∃ k, X % 7 = k := ⟨_, rfl⟩
  have hk6 : k ≤ 6 := by omega
  obtain ⟨m, hm⟩ : ∃ m, 2 ^ k = m := ⟨_, rfl⟩
  have hm64 : m ≤ 64 := by rw [← hm]; exact Nat.le_trans (Nat.pow_le_pow_right (by omega) hk6) (by decide)
  have HM : Hid (Calls Try.prog 12 #[.int .u64 X] w fun e W' => e = .returned (.int .i64 (k : Int)) ∧ w = W') := by
    have e := many_spec w X hX
    rw [hk] at e
    exact e
  have HN1 : Hid (Calls Try.prog 13 #[.int .i64 (k : Int), .int .i64 1048576] w fun e W' => ∃ db Fp, e = .returned (.pointer (some ⟨db, 0, none⟩)) ∧ Hid (Bd W' db k 1048576 st0 0 Fp ∧ Keeps (fun _ => False) w W' ∧ ∀ x, Fp x → w.heap.size ≤ x)) := bnew_spec w k 1048576 k 1048576 (by omega) (by omega) rfl ⟨by omega, rfl⟩
  have HP : Hid (∀ (W : World) (db : Nat) (B : Int) (Fp : Nat → Prop), Bd W db k B st0 0 Fp → OpRow W ao os → (0 < os.length → ∀ b off, ao = some ⟨b, off, none⟩ → ¬ Fp b) → Calls Try.prog 14 #[.pointer (some ⟨db, 0, none⟩), .int .i64 (k : Int), .slice ao n cap] W (PlayPost k B k m os db Fp W (playM k B k os))) := fun W db B Fp h ho hf => play_spec k hk6 rfl _ hm h ho hos hcap hf
  have HO := Lib.hid hO
  have HB : Hid (0 < os.length → ∀ b off, ao = some ⟨b, off, none⟩ → b < w.heap.size) := fun h0 b off e => by
    obtain ⟨b', off', e', hlt, _⟩ := hO h0
    rw [e'] at e
    simp only [Option.some.injEq, Addr.mk.injEq, and_true] at e
    omega
  have HF := Lib.hid (tells_facts k hk6 m hm os)
  have hV61 : (k : Int) ≤ 61 := by omega
  have HL := Lib.hid lives37_any
  have HRD := Lib.hid hR
  have HLN := Lib.hid hl
  have hpw : IntKind.u64.wrap ((2 : Int) ^ k) = (m : Int) := by rw [← hm]; exact pow_bit (by omega)
  have HMP := Lib.hid hm
  have HMS : Hid (∀ {w1 w2 : World} {db : Nat} {Fd Fd' : Nat → Prop} {lv rv : Value} {bs : List Nat} {s : PlS}, playM k 1048576 k os = s → (Bd w1 db k 1048576 st0 0 Fd ∧ Keeps (fun _ => False) w w1 ∧ ∀ x, Fd x → w.heap.size ≤ x) → (Pl w1.heap.size w2 db k 1048576 m s.st s.calls Fd' s.l lv s.Rs rv bs ∧ Mv w1 w2 Fd Fd') → 0 < s.l.length → s.st.n ≤ 23040 → s.calls ≤ 90 →
      ∃ lb lc, lv = .slice (some ⟨lb, 0, none⟩) s.l.length lc ∧ s.l.length ≤ lc ∧ ∃ F, MkS w w2 k s 0 0 db lb s.st 90 s.calls F) := fun hs hd pd h0 hn hc => mks_of hk6 hs hd pd h0 hn hc
  clear hO hX hk hm hR hl
  go_enter Try.func4, Try.ntmps4
  go_wp2_with fail
  refine HM.out.mono ?_
  rintro e w' ⟨rfl, rfl⟩
  clear HM
  go_wp2_with fail
  refine HN1.out.mono ?_
  rintro e w1 ⟨db, Fd, rfl, hd⟩
  clear HN1
  have HO1 : Hid (OpRow w1 ao os) := HO.out.keeps hd.out.2.1 (fun _ _ _ x => x)
  have HF1 : Hid (0 < os.length → ∀ b off, ao = some ⟨b, off, none⟩ → ¬ Fd b) := fun h0 b off e hf => by
    have h1 := HB.out h0 b off e
    have := hd.out.2.2 b hf
    omega
  clear HO HB
  go_wp2_with fail
  refine (HP.out w1 db 1048576 Fd hd.out.1 HO1.out HF1.out).mono ?_
  rintro e w2 ⟨lv, rv, bs, Fd', rfl, hpd⟩
  clear HO1 HF1 HP
  obtain ⟨s, hs⟩ : ∃ s, playM k 1048576 k os = s := ⟨_, rfl⟩
  rw [hs] at HF hpd ⊢
  generalize (os.take 30).length = j at HF
  have hj := HF.out.le
  have f1 := HF.out.len
  obtain ⟨lb, lc, rfl, hlc, F0, hS⟩ := HMS.out hs hd.out hpd.out (by omega) HF.out.n HF.out.calls
  have HS : Hid (∃ st kc calls F, MkS w w2 k s (0 * 8064) (0 * 252) db lb st kc calls F) := ⟨_, _, _, _, hS⟩
  clear hd hpd hS HMS hs
  rw [f1] at hlc ⊢
  clear f1
  go_wp2_with fail
  go_loopg [37] (j + 2) (fun g t wx => ∃ i : Nat, i ≤ j + 2 ∧ g = j + 2 - i ∧ t = .int .i64 i ∧ Hid (∃ st kc calls F, MkS w wx k s (i * 8064) (i * 252) db lb st kc calls F))
  case atStart => exact ⟨0, Nat.zero_le _, rfl, rfl, HS⟩
  case round =>
    clear HS
    obtain ⟨i, hi, rfl, rfl, HI⟩ := hrel
    obtain ⟨st, kc, calls, F, hI⟩ := HI.out
    clear HI
    by_cases hlt : i < j + 2
    · have hiI : (i : Int) < (j : Int) + 2 := by omega
      have hwi : IntKind.i64.wrap ((i : Int) + 1) = (i : Int) + 1 := IntWalk.i64_in _ (by omega)
      have hlc' : i < lc := by omega
      have hlj : i < j + 2 := hlt
      obtain ⟨x, hx⟩ : ∃ x, s.l[i]? = some x := ⟨_, List.getElem?_eq_getElem (by have := HF.out.len; omega)⟩
      have hxs := HF.out.is i x hx
      have hx1 := hI.ext.is hxs
      have hx2 := isN_iff.1 hx1
      have hst := hI.n
      have hc1 := hI.l i x hx
      have hrd := HRD.out.old hI.kp
      have hkp0 := hI.kp
      have HLR : Hid (∀ W', Keeps (fun x => w.heap.size ≤ x) w W' → Calls Try.prog 22 #[.int .i64 (k : Int), .slice bo nb capb] W' fun e w' => e = .returned (.bool (ordB k l)) ∧ W' = w') := fun W' hk => lright_any (HRD.out.old hk) (Nat.zero_le _) (by omega)
      cases ho : ordB k l with
      | false =>
        have HMV := Lib.hid (omove_no hI.bd (by omega) hV61 (by omega) (f := x) (by omega) (by omega) hrd (Nat.zero_le _) (by rw [ho]; rfl))
        rw [ho] at HLR
        have HMK := Lib.hid hI
        clear hx hxs hx1 hx2 hst hrd hI hkp0 ho
        go_wp2_with fail
        refine HMV.out.mono ?_
        rintro e w3 ⟨rfl, hk3⟩
        have HM3 := Lib.hid (HMK.out.quiet hk3.out)
        clear HMK HMV hk3
        go_wp2_with fail
        refine (HLR.out _ HM3.out.kp).mono ?_
        rintro e w' ⟨rfl, rfl⟩
        go_wp2_with fail
        refine (HL.out _).mono ?_
        rintro e w4 ⟨rfl, hb⟩
        go_wp2_with fail
        go_ret
        exact ⟨rfl, HM3.out.below.trans (hb.mono HM3.out.kp.size)⟩
      | true =>
        have HMV := Lib.hid (hI.moved hk6 (by omega) (by omega) ho hx1 hrd (fun g off n cap e h0 hF => by
          have h1 := HRD.out.lt e h0
          have := hI.fw g hF
          omega))
        rw [ho] at HLR
        have HOB := Lib.hid ho
        have HX1 := Lib.hid hx1
        have HXS := Lib.hid hxs
        have HEX := Lib.hid hI.ext
        have HGD := Lib.hid hI.fine.wf.ok.good
        clear hx hxs hx1 hst hrd hI hkp0 ho
        go_wp2_with fail
        refine HMV.out.mono ?_
        rintro e w3 ⟨y, st1, kc1, calls1, F1, rfl, h3⟩
        clear HMV
        obtain ⟨hI, hM3, hE3, hy, hev⟩ := h3.out
        clear h3
        go_wp2_with fail
        refine (HLR.out _ hI.kp).mono ?_
        rintro e w' ⟨rfl, rfl⟩
        have HI1 := Lib.hid hI
        have hyI := isN_iff.1 hy
        have hst1 := hI.n
        have HE3 := Lib.hid hE3
        have HY := Lib.hid hy
        have HEV := Lib.hid hev
        have hxI2 := isN_iff.1 (hE3.is HX1.out)
        have hx0 := hx2.1
        clear hI hM3 hE3 hy hev hx2 HLR hc1
        go_wp2_with fail
        go_loopg [62] m (fun g t wx => ∃ b : Nat, b ≤ m ∧ g = m - b ∧ t = .int .u64 b ∧ Hid (MkS w wx k s (i * 8064 + 4032) (i * 252 + 126) db lb st1 kc1 calls1 F1))
        case atStart => exact ⟨0, Nat.zero_le _, rfl, rfl, HI1⟩
        case round =>
          clear HI1
          obtain ⟨b, hb, rfl, rfl, HJ⟩ := hrel
          by_cases hlt2 : b < m
          · have hbI : (b : Int) < (m : Int) := by omega
            have hwb : IntKind.u64.wrap ((b : Int) + 1) = (b : Int) + 1 := IntWalk.u64_in _ (by omega)
            obtain ⟨Y, hY⟩ : ∃ Y, bitsL b l k = Y := ⟨_, rfl⟩
            have hlk : l.length = k := by have := (ordB_iff.1 HOB.out).2.2.1; omega
            have hYl : Y < 18446744073709551616 := by rw [← hY]; exact bitsL_lt b (fun x hx => by have := (ordB_iff.1 HOB.out).2.2.2.1 x hx; omega) k
            obtain ⟨v, hv⟩ : ∃ v, ev st.L (Nat.testBit b) x = v := ⟨_, rfl⟩
            have hv1 : (isN st1.n y && ev st1.L (Nat.testBit Y) y) = v := by
              rw [HY.out, Bool.true_and, HEV.out, ← hY, moved_bits HGD.out rfl HOB.out HX1.out b, hv]
            have hv2 : (isN st1.n x && ev st1.L (Nat.testBit b) x) = v := by
              rw [HE3.out.is HX1.out, Bool.true_and, HE3.out.ev HGD.out _ (isN_iff.1 HX1.out).2, hv]
            have HBT : Hid (Calls Try.prog 25 #[.int .u64 b, .slice bo nb capb] wr fun e w' => e = .returned (.int .u64 (Y : Int)) ∧ wr = w') := by
              have q := bits_spec (X := b) (by omega) (HRD.out.old HJ.out.kp) hlk (by omega)
              rw [HOB.out, if_pos rfl, hY] at q
              exact q
            have HA1 : Hid (Calls Try.prog 24 #[.pointer (some ⟨db, 0, none⟩), .int .i64 y, .int .u64 Y] wr fun e w' => e = .returned (.bool v) ∧ Keeps (fun _ => False) wr w') := by
              have q := bat_spec HJ.out.bd hV61 (by omega) y (by omega) (by omega) Y hYl
              rw [hv1] at q
              exact q.mono fun e w' hh => ⟨hh.1, Keeps.of_below hh.2 (Nat.le_refl _)⟩
            have HA2 : Hid (∀ W', MkS w W' k s (i * 8064 + 4032) (i * 252 + 126) db lb st1 kc1 calls1 F1 → Calls Try.prog 24 #[.pointer (some ⟨db, 0, none⟩), .int .i64 x, .int .u64 b] W' fun e w' => e = .returned (.bool v) ∧ Keeps (fun _ => False) W' w') := fun W' hW => by
              have q := bat_spec hW.bd hV61 (by omega) x (by omega) (by omega) b (by omega)
              rw [hv2] at q
              exact q.mono fun e w' hh => ⟨hh.1, Keeps.of_below hh.2 (Nat.le_refl _)⟩
            clear hY hlk hYl hv hv1 hv2
            go_wp2_with fail
            refine HBT.out.mono ?_
            rintro e w' ⟨rfl, rfl⟩
            go_wp2_with fail
            refine HA1.out.mono ?_
            rintro e w4 ⟨rfl, hk4⟩
            have HJ4 := Lib.hid (HJ.out.quiet hk4)
            clear HBT HA1 HJ hk4
            go_wp2_with fail
            refine (HA2.out _ HJ4.out).mono ?_
            rintro e w5 ⟨rfl, hk5⟩
            have HJ5 := Lib.hid (HJ4.out.quiet hk5)
            clear HA2 HJ4 hk5
            go_wp2_with fail
            go_roundg (m - (b + 1))
            case measure => omega
            case rel => exact ⟨b + 1, by omega, rfl, by go_num, HJ5⟩
          · have hbI : ¬ (b : Int) < (m : Int) := by omega
            have hlk : l.length = k := by have := (ordB_iff.1 HOB.out).2.2.1; omega
            have HBK := Lib.hid (back_yes (HRD.out.old HJ.out.kp) hlk (by omega) HOB.out)
            clear hlk
            go_wp2_with fail
            refine HBK.out.mono ?_
            rintro e w4 ⟨G, hG, b2, rfl, h4⟩
            have HJ4 := Lib.hid (HJ.out.quiet h4.out.2.1)
            have hob := back_ord HOB.out hG.out
            have HMV := Lib.hid (HJ4.out.moved hk6 (by omega) (by omega) hob HY.out h4.out.2.2.reads (fun g off n cap e h0 hF => by
              simp only [Value.slice.injEq, Option.some.injEq, Addr.mk.injEq] at e
              have h1 := h4.out.1
              have := HJ.out.bd.lt g hF
              omega))
            clear HBK HJ h4 hob
            go_wp2_with fail
            refine HMV.out.mono ?_
            rintro e w5 ⟨z, st2, kc2, calls2, F2, rfl, h5⟩
            obtain ⟨hI5, hM5, hE5, hz, hev5⟩ := h5.out
            have hzx : z = x := by
              refine once_bits hI5.fine.wf.ok.good k rfl hz (hE5.is (HE3.out.is HX1.out)) (fun q _ => ?_)
              rw [hev5, HEV.out, moved_back HGD.out rfl HOB.out hG.out HX1.out, hE5.ev HJ4.out.fine.wf.ok.good _ (isN_iff.1 (HE3.out.is HX1.out)).2, HE3.out.ev HGD.out _ (isN_iff.1 HX1.out).2]
            subst hzx
            have HN5 : Hid (∃ st kc calls F, MkS w w5 k s ((i + 1) * 8064) ((i + 1) * 252) db lb st kc calls F) := by
              have e1 : (i + 1) * 8064 = i * 8064 + 4032 + 4032 := by omega
              have e2 : (i + 1) * 252 = i * 252 + 126 + 126 := by omega
              rw [e1, e2]
              exact ⟨_, _, _, _, hI5⟩
            clear HMV h5 hI5 hM5 hE5 hz hev5 HJ4 hG
            go_wp2_with fail
            go_roundg (j + 2 - (i + 1))
            case measure => omega
            case rel => exact ⟨i + 1, by omega, rfl, by go_num, HN5⟩
    · have hiI : ¬ (i : Int) < (j : Int) + 2 := by omega
      have hst := hI.n
      have HMV := Lib.hid (omove_no hI.bd (by omega) hV61 (by omega) (f := -1) (by omega) (by omega) (HRD.out.old hI.kp) (Nat.zero_le _) (by
        have : isN st.n (-1) = false := by
          cases e : isN st.n (-1) with
          | false => rfl
          | true => have := (isN_iff.1 e).1; omega
        rw [this, Bool.and_false]))
      have HMK := Lib.hid hI
      clear hI hst
      go_wp2_with fail
      refine HMV.out.mono ?_
      rintro e w3 ⟨rfl, hk3⟩
      have HM3 := Lib.hid (HMK.out.quiet hk3.out)
      clear HMK HMV hk3
      go_wp2_with fail
      refine (HL.out _).mono ?_
      rintro e w4 ⟨rfl, hb⟩
      go_wp2_with fail
      go_ret
      exact ⟨rfl, HM3.out.below.trans (hb.mono HM3.out.kp.size)⟩
theorem orderMoves_walk (w : World) (x : Int) (hx0 : 0 ≤ x) (hx1 : x ≤ 18446744073709551615) (ao : Option Addr) (n cap : Nat) (G : Nat → Nat → Value) (R : IsRow w [.int .u64, .int .u64, .int .u64, .int .u64] ao n cap G) (bo : Option Addr) (nb capb : Nat) (Gb : Nat → Nat → Value) (Rb : IsRow w [.int .i64] bo nb capb Gb) :
    Calls Try.prog 4 #[.int .u64 x, .slice ao n cap, .slice bo nb capb] w fun e w' => e = .returned (.bool true) ∧ Below w.heap.size w w' := by
  obtain ⟨X, rfl⟩ := Int.eq_ofNat_of_zero_le hx0
  obtain ⟨os, hos, hO⟩ := R.ops
  obtain ⟨l, hl, hr⟩ := Rb.intsTo (Nat.le_refl nb)
  exact orderMoves_core w X (by omega) ao n cap os hos hO R.le bo nb capb l hl hr
end Go.Proofs.Ytipcgjigkipcpaa
