/-
  The walk of the law QuantHolds.
-/
import Derived.Test.YtfakjhcpaiaekaaQuantHoldsState
import Derived.Test.YtfakjhcpaiaekaaQuantLives
import Derived.Test.YtfakjhcpaiaekaaItePlayRun
import Derived.Test.YtfakjhcpaiaekaaItePlayOps
set_option linter.unusedVariables false
set_option linter.unusedSimpArgs false
set_option linter.unnecessarySimpa false
namespace Go.Proofs.Ytfakjhcpaiaekaa
open Go.ChangeShapes Go.WideShapes Go.ChangeAt Go.RowKit Go.Deep NodePlain
theorem each_one (or : Bool) (E : (Nat → Bool) → Bool) (v : Int) : eachEv or E [v] = eachOne or E v := rfl
theorem holds_not (E : (Nat → Bool) → Bool) (v : Int) (β : Nat → Bool) : eachEv true E [v] β = !(eachEv false (fun β => !E β) [v] β) := by
  show (E (putB β v false) || E (putB β v true)) = !((!E (putB β v false)) && (!E (putB β v true)))
  cases E (putB β v false) <;> cases E (putB β v true) <;> rfl
theorem holds_twice (E : (Nat → Bool) → Bool) (v : Int) (β : Nat → Bool) : eachEv true (eachEv true E [v]) [v] β = eachEv true E [v] β := by
  show ((E (putB (putB β v false) v false) || E (putB (putB β v false) v true)) || (E (putB (putB β v true) v false) || E (putB (putB β v true) v true))) = (E (putB β v false) || E (putB β v true))
  rw [putB_twice, putB_twice, putB_twice, putB_twice]
  cases E (putB β v false) <;> cases E (putB β v true) <;> rfl
theorem holds_free (E : (Nat → Bool) → Bool) (v : Int) (so : Bool) (β : Nat → Bool) : eachEv true E [v] (putB β v so) = eachEv true E [v] β := by
  show (E (putB (putB β v so) v false) || E (putB (putB β v so) v true)) = (E (putB β v false) || E (putB β v true))
  rw [putB_twice, putB_twice]
theorem holds_none (or : Bool) {E : (Nat → Bool) → Bool} {v : Int} (h : ¬ DepE E v) (β : Nat → Bool) : eachEv or E [v] β = E β := by
  show (if or then E (putB β v false) || E (putB β v true) else E (putB β v false) && E (putB β v true)) = E β
  rw [nodep_put h, nodep_put h]
  cases or <;> cases E β <;> rfl
set_option maxRecDepth 100000 in
set_option maxHeartbeats 6400000 in
theorem quantHolds_core (w : World) (X : Nat) (hX : X < 18446744073709551616) (ao : Option Addr) (n cap : Nat) (os : List OpR) (hos : os.length = n) (hO : OpRow w ao os) (hcap : n ≤ cap) (v t : Int) (hv0 : -9223372036854775808 ≤ v) (hv1 : v ≤ 9223372036854775807) (ht0 : -9223372036854775808 ≤ t) (ht1 : t ≤ 9223372036854775807) :
    Calls Try.prog 5 #[.slice ao n cap, .int .u64 X, .agg #[.int .i64 v, .int .i64 t]] w fun e w' => e = .returned (.bool true) ∧ Below w.heap.size w w' := by
  obtain ⟨k, hk⟩ : ∃ k, X % 7 = k := ⟨_, rfl⟩
  have hk6 : k ≤ 6 := by omega
  obtain ⟨m, hm⟩ : ∃ m, 2 ^ k = m := ⟨_, rfl⟩
  have hal := (MapKept.heap_alloc w (.cells #[.int .i64 v, .int .i64 t] 47)).1
  have hk0 : Keeps (fun _ => False) w (w.alloc (.cells #[.int .i64 v, .int .i64 t] 47)) := (Keeps.refl _ _).alloc _
  have hO0 := hO.keeps hk0 (fun _ _ _ x => x)
  have HK0 := Lib.hid hk0
  have hlt0 := lt_of_heap hal
  obtain ⟨w0, hw0⟩ : ∃ w0, w.alloc (.cells #[.int .i64 v, .int .i64 t] 47) = w0 := ⟨_, rfl⟩
  rw [hw0] at hal hO0 HK0 hlt0
  have d0 := cell_of_heap hal 0
  have d1 := cell_of_heap hal 1
  simp only [List.getElem?_toArray, List.getElem?_cons_zero, List.getElem?_cons_succ] at d0 d1
  have HAL := Lib.hid hal
  have HX := Lib.hid (And.intro hX hO0)
  clear hX hk0 hal hO
  go_enter Try.func5, Try.ntmps5
  go_upto_region 1 with fail
  obtain ⟨bx, hbx⟩ : ∃ bx, w.heap.size = bx := ⟨_, rfl⟩
  rw [hbx] at d0 d1 hlt0 HAL ⊢
  go_quiet (fail)
  have HK1 : Hid (Keeps (fun _ => False) w (w0.drewN nq)) := HK0.out.drewN nq
  have HO0 : Hid (OpRow (w0.drewN nq) ao os) := HX.out.2.keeps ((Keeps.refl (fun _ => False) w0).drewN nq) (fun _ _ _ x => x)
  generalize w0.drewN nq = w0 at *
  have hX := HX.out.1
  clear HK0 HAL d0 d1 hlt0 hw0 HX hbx
  have HK0 := HK1
  clear HK1
  have hO0 := HO0.out
  have HM : Hid (Calls Try.prog 7 #[.int .u64 X] w0 fun e W' => e = .returned (.int .i64 (k : Int)) ∧ w0 = W') := by
    have e := many_spec w0 X hX
    rw [hk] at e
    exact e
  have HN1 : Hid (Calls Try.prog 8 #[.int .i64 (k : Int), .int .i64 1048576] w0 fun e W' => ∃ db Fp, e = .returned (.pointer (some ⟨db, 0, none⟩)) ∧ Hid (Bd W' db k 1048576 st0 0 Fp ∧ Keeps (fun _ => False) w0 W' ∧ ∀ x, Fp x → w0.heap.size ≤ x)) := bnew_spec w0 k 1048576 k 1048576 (by omega) (by omega) rfl ⟨by omega, rfl⟩
  have HP : Hid (∀ (W : World) (db : Nat) (B : Int) (Fp : Nat → Prop), Bd W db k B st0 0 Fp → OpRow W ao os → (0 < os.length → ∀ b off, ao = some ⟨b, off, none⟩ → ¬ Fp b) → Calls Try.prog 9 #[.pointer (some ⟨db, 0, none⟩), .int .i64 (k : Int), .slice ao n cap] W (PlayPost k B k m os db Fp W (playM k B k os))) := fun W db B Fp h ho hf => play_spec k hk6 rfl _ hm h ho hos hcap hf
  have HO := Lib.hid hO0
  have HB : Hid (0 < os.length → ∀ b off, ao = some ⟨b, off, none⟩ → b < w0.heap.size) := fun h0 b off e => by
    obtain ⟨b', off', e', hlt, _⟩ := hO0 h0
    rw [e'] at e
    simp only [Option.some.injEq, Addr.mk.injEq, and_true] at e
    omega
  have HF := Lib.hid (tells_facts k hk6 m hm os)
  have HL := Lib.hid lives17_any
  have HMS : Hid (∀ {w1 w2 : World} {db : Nat} {Fd Fd' : Nat → Prop} {lv rv : Value} {bs : List Nat} {s : PlS}, playM k 1048576 k os = s → (Bd w1 db k 1048576 st0 0 Fd ∧ Keeps (fun _ => False) w0 w1 ∧ ∀ x, Fd x → w0.heap.size ≤ x) → (Pl w1.heap.size w2 db k 1048576 m s.st s.calls Fd' s.l lv s.Rs rv bs ∧ Mv w1 w2 Fd Fd') → 0 < s.l.length → s.st.n ≤ 23040 → s.calls ≤ 90 →
      ∃ lb lc, lv = .slice (some ⟨lb, 0, none⟩) s.l.length lc ∧ s.l.length ≤ lc ∧ ∃ F, MkS w0 w2 k s 0 0 db lb s.st 90 s.calls F) := fun hs hd pd h0 hn hc => mks_of hk6 hs hd pd h0 hn hc
  clear hX hk hm hO0 HO0
  go_wp2_with fail
  refine HM.out.mono ?_
  rintro e w' ⟨rfl, rfl⟩
  clear HM
  go_wp2_with fail
  refine HN1.out.mono ?_
  rintro e w1 ⟨db, Fd, rfl, hd⟩
  clear HN1
  have HO1 : Hid (OpRow w1 ao os) := HO.out.keeps hd.out.2.1 (fun _ _ _ x => x)
  have HF1 : Hid (0 < os.length → ∀ b off, ao = some ⟨b, off, none⟩ → ¬ Fd b) := fun h0 b off e hf => by
    have h1 := HB.out h0 b off e
    have := hd.out.2.2 b hf
    omega
  clear HO HB
  go_wp2_with fail
  refine (HP.out w1 db 1048576 Fd hd.out.1 HO1.out HF1.out).mono ?_
  rintro e w2 ⟨lv, rv, bs, Fd', rfl, hpd⟩
  clear HO1 HF1 HP
  obtain ⟨s, hs⟩ : ∃ s, playM k 1048576 k os = s := ⟨_, rfl⟩
  rw [hs] at HF hpd ⊢
  generalize (os.take 30).length = j at HF
  have hj := HF.out.le
  have f1 := HF.out.len
  obtain ⟨lb, lc, rfl, hlc, F0, hS⟩ := HMS.out hs hd.out hpd.out (by omega) HF.out.n HF.out.calls
  have HGS : Hid (NodePlain.Good (k : Int) s.st.L s.st.n) := hS.fine.wf.ok.good
  have HS : Hid (∃ st kc calls F, MkS w0 w2 k s (0 * 1280) (0 * 20) db lb st kc calls F) := ⟨_, _, _, _, hS⟩
  clear hd hpd hS HMS hs
  rw [f1] at hlc ⊢
  clear f1
  have HEND : Hid (∀ W', Keeps (fun x => w0.heap.size ≤ x) w0 W' → Below w.heap.size w W' ∧ w.heap.size ≤ W'.heap.size) := fun W' hk => by
    have k2 := (HK0.out.mono (fun _ _ x => x.elim) : Keeps (fun x => w.heap.size ≤ x) w w0).trans_new hk (fun i hi hx => by have h2 : w0.heap.size ≤ i := hx; have := HK0.out.size; show w.heap.size ≤ i; omega)
    exact ⟨k2.below (Nat.le_refl _) (fun x hx hs => by omega), k2.size⟩
  clear HK0
  go_wp2_with fail
  go_loopg [41] (j + 2) (fun g tt wx => ∃ i : Nat, i ≤ j + 2 ∧ g = j + 2 - i ∧ tt = .int .i64 i ∧ Hid (∃ st kc calls F, MkS w0 wx k s (i * 1280) (i * 20) db lb st kc calls F))
  case atStart => exact ⟨0, Nat.zero_le _, rfl, rfl, HS⟩
  case round =>
    clear HS
    obtain ⟨i, hi, rfl, rfl, HI⟩ := hrel
    obtain ⟨st, kc, calls, F, hI⟩ := HI.out
    clear HI
    by_cases hlt : i < j + 2
    · have hiI : (i : Int) < (j : Int) + 2 := by omega
      have hwi : IntKind.i64.wrap ((i : Int) + 1) = (i : Int) + 1 := IntWalk.i64_in _ (by omega)
      have hlc' : i < lc := by omega
      have hlj : i < j + 2 := hlt
      obtain ⟨f, hx⟩ : ∃ x, s.l[i]? = some x := ⟨_, List.getElem?_eq_getElem (by have := HF.out.len; omega)⟩
      have hxs := HF.out.is i f hx
      have hc1 := hI.l i f hx
      obtain ⟨E, hE⟩ : ∃ E : (Nat → Bool) → Bool, (fun β => ev s.st.L β f) = E := ⟨_, rfl⟩
      have HN0 : Hid (Num s.st f E) := ⟨hxs, fun β => by rw [← hE]⟩
      have HN1 := Lib.hid (HN0.out.ext hI.ext HGS.out)
      have HI := Lib.hid hI
      clear hx hxs hI hE
      have HC1 := Lib.hid (HI.out.some1 hk6 (by omega) (by omega) HN1.out v)
      go_wp2_with fail
      refine HC1.out.mono ?_
      rintro e w3 ⟨z1, st1, kc1, ca1, F1, rfl, h1⟩
      have HG1 := Lib.hid h1.out.1.fine.wf.ok.good
      have HH1 := Lib.hid h1.out
      have HF1n := Lib.hid (HN1.out.ext h1.out.2.1 HI.out.fine.wf.ok.good)
      have HC2 := Lib.hid (HH1.out.1.notN hk6 (by omega) (by omega) HF1n.out)
      clear HC1 h1 hc1
      go_wp2_with fail
      refine HC2.out.mono ?_
      rintro e w4 ⟨z2, st2, kc2, ca2, F2, rfl, h2⟩
      have HG2 := Lib.hid h2.out.1.fine.wf.ok.good
      have HH2 := Lib.hid h2.out
      have HF2n := Lib.hid (HF1n.out.ext h2.out.2.1 HG1.out)
      have HS2 := Lib.hid (HH1.out.2.2.ext h2.out.2.1 HG1.out)
      have HC3 := Lib.hid (HH2.out.1.each1 hk6 (by omega) (by omega) HH2.out.2.2 v)
      clear HC2 h2 HH1 HF1n
      go_wp2_with fail
      refine HC3.out.mono ?_
      rintro e w5 ⟨z3, st3, kc3, ca3, F3, rfl, h3⟩
      have HG3 := Lib.hid h3.out.1.fine.wf.ok.good
      have HH3 := Lib.hid h3.out
      have HF3n := Lib.hid (HF2n.out.ext h3.out.2.1 HG2.out)
      have HS3 := Lib.hid (HS2.out.ext h3.out.2.1 HG2.out)
      have HC4 := Lib.hid (HH3.out.1.notN hk6 (by omega) (by omega) HH3.out.2.2)
      clear HC3 h3 HH2 HF2n HS2
      go_wp2_with fail
      refine HC4.out.mono ?_
      rintro e w6 ⟨z4, st4, kc4, ca4, F4, rfl, h4⟩
      have HG4 := Lib.hid h4.out.1.fine.wf.ok.good
      have HH4 := Lib.hid h4.out
      have HF4n := Lib.hid (HF3n.out.ext h4.out.2.1 HG3.out)
      have HS4 := Lib.hid (HS3.out.ext h4.out.2.1 HG3.out)
      have hz14 : z4 = z1 := h4.out.2.2.eq HS4.out HG4.out (fun β => (holds_not E v β).symm)
      subst hz14
      have HC5 := Lib.hid (HH4.out.1.some1 hk6 (by omega) (by omega) HS4.out v)
      clear HC4 h4 HH3 HF3n HS3
      go_wp2_with fail
      refine HC5.out.mono ?_
      rintro e w7 ⟨z5, st5, kc5, ca5, F5, rfl, h5⟩
      have HG5 := Lib.hid h5.out.1.fine.wf.ok.good
      have HH5 := Lib.hid h5.out
      have HF5n := Lib.hid (HF4n.out.ext h5.out.2.1 HG4.out)
      have HS5 := Lib.hid (HS4.out.ext h5.out.2.1 HG4.out)
      have hz5 : z5 = z4 := h5.out.2.2.eq HS5.out HG5.out (holds_twice E v)
      subst hz5
      have HC6 := Lib.hid (HH5.out.1.restr hk6 (by omega) (by omega) HS5.out v true)
      clear HC5 h5 HH4 HF4n HS4
      go_wp2_with fail
      refine HC6.out.mono ?_
      rintro e w8 ⟨z6, st6, kc6, ca6, F6, rfl, h6⟩
      have HG6 := Lib.hid h6.out.1.fine.wf.ok.good
      have HF6n := Lib.hid (HF5n.out.ext h6.out.2.1 HG5.out)
      have HS6 := Lib.hid (HS5.out.ext h6.out.2.1 HG5.out)
      have hz6 : z6 = z5 := h6.out.2.2.eq HS6.out HG6.out (holds_free E v true)
      have HH6 := Lib.hid h6.out.1
      subst hz6
      have HC7 := Lib.hid (HH6.out.supp hk6 (by omega) HF6n.out)
      clear HC6 h6 HH5 HF5n HS5 HG1 HG2 HG3 HG4 HG5
      go_wp2_with fail
      refine HC7.out.mono ?_
      rintro e w9 ⟨sv, S, Lk, rfl, h7⟩
      have HM7 := Lib.hid (HH6.out.quiet h7.out.1)
      obtain ⟨sa, sc, hsv, hsle, hsrd⟩ := h7.out.2.1
      subst hsv
      obtain ⟨sn, hsn⟩ : ∃ n, S.length = n := ⟨_, rfl⟩
      have hsn6 : sn ≤ 1000000 := by rw [← hsn]; exact h7.out.2.2.2.2.2.2
      have HSR := Lib.hid hsrd
      have HSN := Lib.hid hsn
      have HS7 := Lib.hid h7.out.2.2
      rw [hsn] at hsle ⊢
      clear HC7 h7 HH6 hsrd hsn
      go_wp2_with fail
      go_loopg [17, 82] sn (fun g hv tt wx => ∃ q : Nat, q ≤ sn ∧ g = sn - q ∧ tt = .int .i64 q ∧ hv = .bool (decide (v ∈ S.take q)) ∧ wx = w9)
      case atStart => exact ⟨0, Nat.zero_le _, rfl, rfl, by simp, rfl⟩
      case round =>
        obtain ⟨q, hq, rfl, rfl, rfl, rfl⟩ := hrel
        by_cases hqs : q < sn
        · have hqI : (q : Int) < (sn : Int) := by omega
          have hwq : IntKind.i64.wrap ((q : Int) + 1) = (q : Int) + 1 := IntWalk.i64_in _ (by omega)
          have hqc : q < sc := by omega
          obtain ⟨sg, so, rfl, hsg, hsc⟩ := HSR.out (by have := HSN.out; omega)
          obtain ⟨y, hy⟩ : ∃ y, S[q]? = some y := ⟨_, List.getElem?_eq_getElem (by have := HSN.out; omega)⟩
          have hcy := hsc q y hy
          have HT : Hid (decide (v ∈ S.take (q + 1)) = (decide (v ∈ S.take q) || (y == v))) := by
            show _ = _
            rw [List.take_add_one, hy]
            by_cases e1 : v ∈ S.take q
            · simp [e1]
            · by_cases e2 : y = v
              · simp [e2]
              · have e3 : ¬ v = y := fun e => e2 e.symm
                simp [e1, e2, e3]
          clear hsc hy
          generalize decide (v ∈ S.take q) = hh at *
          cases hh with
          | true =>
            go_wp2_with fail
            go_roundg (sn - (q + 1))
            case measure => omega
            case rel => exact ⟨q + 1, by omega, rfl, by go_num, by rw [HT.out]; rfl, rfl⟩
          | false =>
            go_wp2_with fail
            go_roundg (sn - (q + 1))
            case measure => omega
            case rel => exact ⟨q + 1, by omega, rfl, by go_num, by rw [HT.out]; rfl, rfl⟩
        · obtain rfl : sn = q := by omega
          have hqI : ¬ (sn : Int) < (sn : Int) := by omega
          obtain ⟨hh, hhe⟩ : ∃ b, decide (v ∈ S.take sn) = b := ⟨_, rfl⟩
          have HHE : Hid (hh = true ↔ DepE E v) := by
            show _ ↔ _
            rw [← hhe, List.take_of_length_le (by rw [HSN.out]; exact Nat.le_refl _), decide_eq_true_iff]
            exact HS7.out.2.1 v
          rw [hhe]
          clear hhe
          have HC8 := Lib.hid (HM7.out.size1 hk6 (by omega) HF6n.out.is)
          go_wp2_with fail
          refine HC8.out.mono ?_
          rintro e wa ⟨zq, rfl, h8⟩
          have HM8 := Lib.hid (HM7.out.quiet h8.out.1)
          have HSZ8 := Lib.hid h8.out.2.1
          have HZN8 := Lib.hid h8.out.2.2
          clear HC8 h8 HM7 HS7 HSN HSR
          cases hh with
          | true =>
            have HMX := HM8
            have HFX := HF6n
            have HSZ := HSZ8
            have HZN := HZN8
            have HC9 := Lib.hid (HMX.out.supp hk6 (by omega) HFX.out)
            go_wp2_with fail
            refine HC9.out.mono ?_
            rintro e wb ⟨sv2, S2, Lk2, rfl, h9⟩
            have hS2 : (S2.length : Int) ≤ (zq : Int) := by
              obtain ⟨K9, hd9, hk9⟩ := HSZ.out
              have := h9.out.2.2.2.2.1.one _ hd9
              have h2 := h9.out.2.2.2.2.2.1
              rw [this, hk9] at h2
              omega
            obtain ⟨sa2, sc2, hsv2, _⟩ := h9.out.2.1
            subst hsv2
            obtain ⟨s2n, hs2n⟩ : ∃ n, S2.length = n := ⟨_, rfl⟩
            rw [hs2n] at hS2 ⊢
            have hS2' : ¬ ((zq : Int) < (s2n : Int)) := by omega
            have HMZ := Lib.hid (HMX.out.quiet h9.out.1)
            have hnn := HMZ.out.n
            have HLN := Lib.hid (blen_spec HMZ.out.bd (by omega))
            clear HC9 h9 hs2n hS2
            go_wp2_with fail
            refine HLN.out.mono ?_
            rintro e w' ⟨rfl, rfl⟩
            have hzn : ¬ ((st6.n : Int) < (zq : Int)) := by have := HZN.out; omega
            have HN : Hid (∃ st kc calls F, MkS w0 wb k s ((i + 1) * 1280) ((i + 1) * 20) db lb st kc calls F) := ⟨_, _, _, _, HMZ.out.more (by omega) (by omega)⟩
            clear HLN HMZ HMX HFX HSZ HZN hnn
            go_wp2_with fail
            go_roundg (j + 2 - (i + 1))
            case measure => omega
            case rel => exact ⟨i + 1, by omega, rfl, by go_num, HN⟩
          | false =>
            have hnd : ¬ DepE E v := fun h => by have := HHE.out.2 h; cases this
            have hzf : z6 = f := HS6.out.eq HF6n.out HG6.out (holds_none true hnd)
            subst hzf
            have HND := Lib.hid hnd
            have HCa := Lib.hid (HM8.out.each1 hk6 (by omega) (by omega) HF6n.out v)
            clear hnd
            go_wp2_with fail
            refine HCa.out.mono ?_
            rintro e wa1 ⟨z7, st7, kc7, ca7, F7, rfl, h9⟩
            have HG7 := Lib.hid h9.out.1.fine.wf.ok.good
            have HM9 := Lib.hid h9.out.1
            have HF7n := Lib.hid (HF6n.out.ext h9.out.2.1 HG6.out)
            have HSZ9 := Lib.hid (HSZ8.out.ext h9.out.2.1 HG6.out HF6n.out.is)
            have hle7 := h9.out.2.1.le
            have HZN9 : Hid (zq ≤ st7.n) := Nat.le_trans HZN8.out hle7
            have hz7 : z7 = z6 := h9.out.2.2.eq HF7n.out HG7.out (holds_none false HND.out)
            subst hz7
            have HCb := Lib.hid (HM9.out.restr hk6 (by omega) (by omega) HF7n.out v false)
            clear HCa h9 HM8 hle7
            go_wp2_with fail
            refine HCb.out.mono ?_
            rintro e wa2 ⟨z8, st8, kc8, ca8, F8, rfl, h10⟩
            have HG8 := Lib.hid h10.out.1.fine.wf.ok.good
            have HMX := Lib.hid h10.out.1
            have HFX := Lib.hid (HF7n.out.ext h10.out.2.1 HG7.out)
            have HSZ := Lib.hid (HSZ9.out.ext h10.out.2.1 HG7.out HF7n.out.is)
            have hle8 := h10.out.2.1.le
            have HZN : Hid (zq ≤ st8.n) := Nat.le_trans HZN9.out hle8
            have hz8 : z8 = z7 := h10.out.2.2.eq HFX.out HG8.out (nodep_put HND.out · false)
            subst hz8
            clear HCb h10 HM9 hle8 HF7n HSZ9 HZN9
            have HC9 := Lib.hid (HMX.out.supp hk6 (by omega) HFX.out)
            go_wp2_with fail
            refine HC9.out.mono ?_
            rintro e wb ⟨sv2, S2, Lk2, rfl, h9⟩
            have hS2 : (S2.length : Int) ≤ (zq : Int) := by
              obtain ⟨K9, hd9, hk9⟩ := HSZ.out
              have := h9.out.2.2.2.2.1.one _ hd9
              have h2 := h9.out.2.2.2.2.2.1
              rw [this, hk9] at h2
              omega
            obtain ⟨sa2, sc2, hsv2, _⟩ := h9.out.2.1
            subst hsv2
            obtain ⟨s2n, hs2n⟩ : ∃ n, S2.length = n := ⟨_, rfl⟩
            rw [hs2n] at hS2 ⊢
            have hS2' : ¬ ((zq : Int) < (s2n : Int)) := by omega
            have HMZ := Lib.hid (HMX.out.quiet h9.out.1)
            have hnn := HMZ.out.n
            have HLN := Lib.hid (blen_spec HMZ.out.bd (by omega))
            clear HC9 h9 hs2n hS2
            go_wp2_with fail
            refine HLN.out.mono ?_
            rintro e w' ⟨rfl, rfl⟩
            have hzn : ¬ ((st8.n : Int) < (zq : Int)) := by have := HZN.out; omega
            have HN : Hid (∃ st kc calls F, MkS w0 wb k s ((i + 1) * 1280) ((i + 1) * 20) db lb st kc calls F) := ⟨_, _, _, _, HMZ.out.more (by omega) (by omega)⟩
            clear HLN HMZ HMX HFX HSZ HZN hnn
            go_wp2_with fail
            go_roundg (j + 2 - (i + 1))
            case measure => omega
            case rel => exact ⟨i + 1, by omega, rfl, by go_num, HN⟩
    · have hiI : ¬ (i : Int) < (j : Int) + 2 := by omega
      have hin := hI.n
      have hic := hI.kc
      have HM3 := Lib.hid hI
      have HIS := Lib.hid (bis_spec hI.bd (by omega) t ht1)
      clear hI
      go_wp2_with fail
      refine HIS.out.mono ?_
      rintro e w' ⟨rfl, rfl⟩
      cases hit : isN st.n t with
      | true =>
        go_wp2_with fail
        refine (HL.out _).mono ?_
        rintro e w4 ⟨rfl, hb⟩
        obtain ⟨q1, q2⟩ := HEND.out _ HM3.out.kp
        go_wp2_with fail
        go_ret
        exact ⟨rfl, q1.trans (hb.mono q2)⟩
      | false =>
        have HIT := Lib.hid hit
        have one : isN st.n 1 = true := isN_iff.2 ⟨by omega, by omega⟩
        have HA1 := Lib.hid (restrict_none HM3.out.bd (by omega) ht1 hit 0 true)
        have HA2 : Hid (∀ {W' : World}, Keeps (fun _ => False) wr W' → ∀ x, Calls Try.prog 21 #[.pointer (some ⟨db, 0, none⟩), .int .i64 t, x] W' fun e W2 => e = .returned (.int .i64 0) ∧ W' = W2) := fun hk x => some_none (HM3.out.quiet hk).bd (by omega) ht1 HIT.out x
        have HA3 : Hid (∀ {W' : World}, Keeps (fun _ => False) wr W' → ∀ x, Calls Try.prog 23 #[.pointer (some ⟨db, 0, none⟩), .int .i64 t, x] W' fun e W2 => e = .returned (.int .i64 0) ∧ W' = W2) := fun hk x => qeach_none (HM3.out.quiet hk).bd (by omega) ht1 HIT.out x
        have HA4 : Hid (∀ {W' : World}, Keeps (fun _ => False) wr W' → Calls Try.prog 30 #[.pointer (some ⟨db, 0, none⟩), .int .i64 t, .int .i64 0, .int .i64 1] W' fun e W2 => e = .returned (.int .i64 0) ∧ W' = W2) := fun hk => put_none1 (HM3.out.quiet hk).bd (by omega) ht1 HIT.out 0 1
        have HA5 : Hid (∀ {W' : World}, Keeps (fun _ => False) wr W' → Calls Try.prog 30 #[.pointer (some ⟨db, 0, none⟩), .int .i64 1, .int .i64 0, .int .i64 t] W' fun e W2 => e = .returned (.int .i64 0) ∧ W' = W2) := fun hk => put_none2 (HM3.out.quiet hk).bd (by omega) (by omega) one ht1 HIT.out 0
        have HA6 : Hid (∀ {W' : World}, Keeps (fun _ => False) wr W' → Calls Try.prog 26 #[.pointer (some ⟨db, 0, none⟩), .int .i64 t] W' fun e W2 => e = .returned (.int .i64 0) ∧ Keeps (fun _ => False) W' W2) := fun hk => size_none (HM3.out.quiet hk).bd hk6 (by omega) ht0 ht1 HIT.out
        have HA7 : Hid (∀ {W' : World}, Keeps (fun _ => False) wr W' → Calls Try.prog 25 #[.pointer (some ⟨db, 0, none⟩), .int .i64 t] W' fun e W2 => ∃ ao cap, e = .returned (.slice ao 0 cap) ∧ Keeps (fun _ => False) W' W2) := fun hk => supp_none (HM3.out.quiet hk).bd hk6 (by omega) ht0 ht1 HIT.out
        clear hit one
        go_wp2_with fail
        refine HA1.out.mono ?_
        rintro e wb ⟨rfl, k1⟩
        have ka := k1.alloc (.cells #[.int .i64 0] 3)
        go_wp2_with fail
        refine (HA2.out ka _).mono ?_
        rintro e w' ⟨rfl, rfl⟩
        have kb := ka.alloc (.cells #[.int .i64 0] 3)
        go_wp2_with fail
        refine (HA3.out kb _).mono ?_
        rintro e w' ⟨rfl, rfl⟩
        go_wp2_with fail
        refine (HA4.out kb).mono ?_
        rintro e w' ⟨rfl, rfl⟩
        go_wp2_with fail
        refine (HA5.out kb).mono ?_
        rintro e w' ⟨rfl, rfl⟩
        go_wp2_with fail
        refine (HA6.out kb).mono ?_
        rintro e wc ⟨rfl, kc2⟩
        have kd := kb.trans kc2
        go_wp2_with fail
        refine (HA7.out kd).mono ?_
        rintro e wd ⟨ao7, cap7, rfl, ke⟩
        have kf := kd.trans ke
        go_wp2_with fail
        refine (HL.out _).mono ?_
        rintro e w4 ⟨rfl, hb⟩
        obtain ⟨q1, q2⟩ := HEND.out _ (HM3.out.quiet kf).kp
        go_wp2_with fail
        go_ret
        exact ⟨rfl, q1.trans (hb.mono q2)⟩
theorem quantHolds_walk (w : World) (ao : Option Addr) (n cap : Nat) (G : Nat → Nat → Value) (R : IsRow w [.int .u64, .int .u64, .int .u64, .int .u64] ao n cap G) (x : Int) (hx0 : 0 ≤ x) (hx1 : x ≤ 18446744073709551615) (cs : Array Value) (sz : cs.size = 2) (fit : Fits [.int .i64, .int .i64] 0 cs.toList) :
    Calls Try.prog 5 #[.slice ao n cap, .int .u64 x, .agg cs] w fun e w' => e = .returned (.bool true) ∧ Below w.heap.size w w' := by
  obtain ⟨X, rfl⟩ := Int.eq_ofNat_of_zero_le hx0
  obtain ⟨os, hos, hO⟩ := R.ops
  obtain ⟨v, t, rfl, b0, b1, b2, b3⟩ : ∃ v t : Int, cs = #[.int .i64 v, .int .i64 t] ∧ -9223372036854775808 ≤ v ∧ v ≤ 9223372036854775807 ∧ -9223372036854775808 ≤ t ∧ t ≤ 9223372036854775807 := by
    obtain ⟨v0, e0, a, rfl, w0⟩ := fit 0 _ rfl
    obtain ⟨v1, e1, b, rfl, w1⟩ := fit 1 _ rfl
    have q0 := bounds_i64 w0
    have q1 := bounds_i64 w1
    refine ⟨a, b, ?_, q0.1, q0.2, q1.1, q1.2⟩
    obtain ⟨l⟩ := cs
    match l, sz, e0, e1 with
    | [p, q], _, e0, e1 =>
      simp at e0 e1
      rw [e0, e1]
  exact quantHolds_core w X (by omega) ao n cap os hos hO R.le v t b0 b1 b2 b3
end Go.Proofs.Ytfakjhcpaiaekaa
