/-
  The walk of the law QuantOrders.
-/
import Derived.Test.YtipcgjigkipcpaaQuantLives
import Derived.Test.YtipcgjigkipcpaaItePlayRun
import Derived.Test.YtipcgjigkipcpaaItePlayOps
set_option linter.unusedVariables false
set_option linter.unusedSimpArgs false
set_option linter.unnecessarySimpa false
namespace Go.Proofs.Ytipcgjigkipcpaa
open Go.ChangeShapes Go.WideShapes Go.ChangeAt Go.RowKit Go.Deep NodePlain
set_option maxRecDepth 100000 in
set_option maxHeartbeats 6400000 in
theorem quantOrders_core (w : World) (X : Nat) (hX : X < 18446744073709551616) (ao : Option Addr) (n cap : Nat) (os : List OpR) (hos : os.length = n) (hO : OpRow w ao os) (hcap : n ≤ cap) (v t : Int) :
    Calls Try.prog 3 #[.slice ao n cap, .int .u64 X, .agg #[.int .i64 v, .int .i64 t]] w fun e w' => e = .returned (.bool true) ∧ Below w.heap.size w w' := by
  obtain ⟨k, hk⟩ : ∃ k, X % 7 = k := ⟨_, rfl⟩
  have hk6 : k ≤ 6 := by omega
  obtain ⟨m, hm⟩ : ∃ m, 2 ^ k = m := ⟨_, rfl⟩
  have hal := (MapKept.heap_alloc w (.cells #[.int .i64 v, .int .i64 t] 24)).1
  have hk0 : Keeps (fun _ => False) w (w.alloc (.cells #[.int .i64 v, .int .i64 t] 24)) := (Keeps.refl _ _).alloc _
  have hO0 := hO.keeps hk0 (fun _ _ _ x => x)
  have HK0 := Lib.hid hk0
  have hlt0 := lt_of_heap hal
  obtain ⟨w0, hw0⟩ : ∃ w0, w.alloc (.cells #[.int .i64 v, .int .i64 t] 24) = w0 := ⟨_, rfl⟩
  rw [hw0] at hal hO0 HK0 hlt0
  have HM : Hid (Calls Try.prog 12 #[.int .u64 X] w0 fun e W' => e = .returned (.int .i64 (k : Int)) ∧ w0 = W') := by
    have e := many_spec w0 X hX
    rw [hk] at e
    exact e
  have HN1 : Hid (Calls Try.prog 13 #[.int .i64 (k : Int), .int .i64 1048576] w0 fun e W' => ∃ db Fp, e = .returned (.pointer (some ⟨db, 0, none⟩)) ∧ Hid (Bd W' db k 1048576 st0 0 Fp ∧ Keeps (fun _ => False) w0 W' ∧ ∀ x, Fp x → w0.heap.size ≤ x)) := bnew_spec w0 k 1048576 k 1048576 (by omega) (by omega) rfl ⟨by omega, rfl⟩
  have HP : Hid (∀ (W : World) (db : Nat) (B : Int) (Fp : Nat → Prop), Bd W db k B st0 0 Fp → OpRow W ao os → (0 < os.length → ∀ b off, ao = some ⟨b, off, none⟩ → ¬ Fp b) → Calls Try.prog 14 #[.pointer (some ⟨db, 0, none⟩), .int .i64 (k : Int), .slice ao n cap] W (PlayPost k B k m os db Fp W (playM k B k os))) := fun W db B Fp h ho hf => play_spec k hk6 rfl _ hm h ho hos hcap hf
  have HO := Lib.hid hO0
  have HB : Hid (0 < os.length → ∀ b off, ao = some ⟨b, off, none⟩ → b < w0.heap.size) := fun h0 b off e => by
    obtain ⟨b', off', e', hlt, _⟩ := hO0 h0
    rw [e'] at e
    simp only [Option.some.injEq, Addr.mk.injEq, and_true] at e
    omega
  have HF := Lib.hid (tells_facts k hk6 m hm os)
  have HL := Lib.hid lives17_any
  have HMS : Hid (∀ {w1 w2 : World} {db : Nat} {Fd Fd' : Nat → Prop} {lv rv : Value} {bs : List Nat} {s : PlS}, playM k 1048576 k os = s → (Bd w1 db k 1048576 st0 0 Fd ∧ Keeps (fun _ => False) w0 w1 ∧ ∀ x, Fd x → w0.heap.size ≤ x) → (Pl w1.heap.size w2 db k 1048576 m s.st s.calls Fd' s.l lv s.Rs rv bs ∧ Mv w1 w2 Fd Fd') → 0 < s.l.length → s.st.n ≤ 23040 → s.calls ≤ 90 →
      ∃ lb lc, lv = .slice (some ⟨lb, 0, none⟩) s.l.length lc ∧ s.l.length ≤ lc ∧ ∃ F, MkS w0 w2 k s 0 0 db lb s.st 90 s.calls F) := fun hs hd pd h0 hn hc => mks_of hk6 hs hd pd h0 hn hc
  have d0 := cell_of_heap hal 0
  have d1 := cell_of_heap hal 1
  simp only [List.getElem?_toArray, List.getElem?_cons_zero, List.getElem?_cons_succ] at d0 d1
  have HAL := Lib.hid hal
  clear hO hX hk hm hO0 hk0 hal
  go_enter Try.func3, Try.ntmps3
  go_upto_region 1 with fail
  obtain ⟨bx, hbx⟩ : ∃ bx, w.heap.size = bx := ⟨_, rfl⟩
  have HBX := Lib.hid hbx
  rw [hbx] at d0 d1 hlt0 HAL ⊢
  clear hw0 hbx
  go_wp2_with fail
  refine HM.out.mono ?_
  rintro e w' ⟨rfl, rfl⟩
  clear HM
  go_wp2_with fail
  refine HN1.out.mono ?_
  rintro e w1 ⟨db, Fd, rfl, hd⟩
  clear HN1
  have HO1 : Hid (OpRow w1 ao os) := HO.out.keeps hd.out.2.1 (fun _ _ _ x => x)
  have HF1 : Hid (0 < os.length → ∀ b off, ao = some ⟨b, off, none⟩ → ¬ Fd b) := fun h0 b off e hf => by
    have h1 := HB.out h0 b off e
    have := hd.out.2.2 b hf
    omega
  have e0 := (hd.out.2.1.cell (p := ⟨bx, 0, none⟩) hlt0 (fun x => x)).trans d0
  have e1 := (hd.out.2.1.cell (p := ⟨bx, 1, none⟩) hlt0 (fun x => x)).trans d1
  have hlt1 : bx < w1.heap.size := Nat.lt_of_lt_of_le hlt0 hd.out.2.1.size
  clear HO HB d0 d1
  go_upto_region 5 with fail
  go_quiet (fail)
  have hd2 : Hid (Bd (w1.drewN nq) db k 1048576 st0 0 Fd ∧ Keeps (fun _ => False) w0 (w1.drewN nq) ∧ ∀ x, Fd x → w0.heap.size ≤ x) := ⟨hd.out.1.quiet ((Keeps.refl _ _).drewN nq), hd.out.2.1.drewN nq, hd.out.2.2⟩
  have HO2 : Hid (OpRow (w1.drewN nq) ao os) := HO1.out.keeps ((Keeps.refl (fun _ => False) w1).drewN nq) (fun _ _ _ x => x)
  generalize w1.drewN nq = w1 at *
  clear hd HO1 e0 e1 hlt1
  go_wp2_with fail
  refine (HP.out w1 db 1048576 Fd hd2.out.1 HO2.out HF1.out).mono ?_
  rintro e w2 ⟨lv, rv, bs, Fd', rfl, hpd⟩
  clear HO2 HF1 HP
  obtain ⟨s, hs⟩ : ∃ s, playM k 1048576 k os = s := ⟨_, rfl⟩
  rw [hs] at HF hpd ⊢
  generalize (os.take 30).length = j at HF
  have hj := HF.out.le
  have f1 := HF.out.len
  obtain ⟨lb, lc, rfl, hlc, F0, hS⟩ := HMS.out hs hd2.out hpd.out (by omega) HF.out.n HF.out.calls
  have HS : Hid (∃ st kc calls F, MkS w0 w2 k s (0 * 2560) (0 * 40) db lb st kc calls F) := ⟨_, _, _, _, hS⟩
  clear hd2 hpd hS HMS hs
  rw [f1] at hlc ⊢
  clear f1
  have HEND : Hid (∀ W', Keeps (fun x => w0.heap.size ≤ x) w0 W' → Below w.heap.size w W' ∧ w.heap.size ≤ W'.heap.size) := fun W' hk => by
    have k2 := (HK0.out.mono (fun _ _ x => x.elim) : Keeps (fun x => w.heap.size ≤ x) w w0).trans_new hk (fun i hi hx => by have h2 : w0.heap.size ≤ i := hx; have := HK0.out.size; show w.heap.size ≤ i; omega)
    exact ⟨k2.below (Nat.le_refl _) (fun x hx hs => by omega), k2.size⟩
  clear HK0 HAL hlt0 HBX
  go_wp2_with fail
  go_loopg [37] (j + 2) (fun g tt wx => ∃ i : Nat, i ≤ j + 2 ∧ g = j + 2 - i ∧ tt = .int .i64 i ∧ Hid (∃ st kc calls F, MkS w0 wx k s (i * 2560) (i * 40) db lb st kc calls F))
  case atStart => exact ⟨0, Nat.zero_le _, rfl, rfl, HS⟩
  case round =>
    clear HS
    obtain ⟨i, hi, rfl, rfl, HI⟩ := hrel
    obtain ⟨st, kc, calls, F, hI⟩ := HI.out
    clear HI
    by_cases hlt : i < j + 2
    · have hiI : (i : Int) < (j : Int) + 2 := by omega
      have hwi : IntKind.i64.wrap ((i : Int) + 1) = (i : Int) + 1 := IntWalk.i64_in _ (by omega)
      have hlc' : i < lc := by omega
      have hlj : i < j + 2 := hlt
      obtain ⟨f, hx⟩ : ∃ x, s.l[i]? = some x := ⟨_, List.getElem?_eq_getElem (by have := HF.out.len; omega)⟩
      have hxs := HF.out.is i f hx
      have hx1 := hI.ext.is hxs
      have hc1 := hI.l i f hx
      obtain ⟨E, hE⟩ : ∃ E : (Nat → Bool) → Bool, (fun β => ev st.L β f) = E := ⟨_, rfl⟩
      have HNF : Hid (Num st f E) := ⟨hx1, fun β => by rw [← hE]⟩
      have HI := Lib.hid hI
      clear hx hxs hx1 hI hE
      have HC1 := Lib.hid (HI.out.some2 hk6 (by omega) (by omega) HNF.out v t)
      go_wp2_with fail
      refine HC1.out.mono ?_
      rintro e w3 ⟨z1, st1, kc1, ca1, F1, rfl, h1⟩
      have HG := Lib.hid HI.out.fine.wf.ok.good
      have HH1 := Lib.hid h1.out
      clear HC1 h1 hc1 HI
      have HF1n := Lib.hid (HNF.out.ext HH1.out.2.1 HG.out)
      have HG1 := Lib.hid HH1.out.1.fine.wf.ok.good
      have HC2 := Lib.hid (HH1.out.1.some2 hk6 (by omega) (by omega) HF1n.out t v)
      go_wp2_with fail
      refine HC2.out.mono ?_
      rintro e w4 ⟨z2, st2, kc2, ca2, F2, rfl, h2⟩
      have HH2 := Lib.hid h2.out
      have hz12 : z1 = z2 := (HH1.out.2.2.ext h2.out.2.1 HG1.out).eq h2.out.2.2 h2.out.1.fine.wf.ok.good (fun β => each_comm true E v t β)
      subst hz12
      have HF2n := Lib.hid (HF1n.out.ext h2.out.2.1 HG1.out)
      have HG2 := Lib.hid HH2.out.1.fine.wf.ok.good
      have HC3 := Lib.hid (HH2.out.1.each2 hk6 (by omega) (by omega) HF2n.out v t)
      clear HC2 h2 HH1 HF1n HG1
      go_wp2_with fail
      refine HC3.out.mono ?_
      rintro e w5 ⟨z3, st3, kc3, ca3, F3, rfl, h3⟩
      have HH3 := Lib.hid h3.out
      have HF3n := Lib.hid (HF2n.out.ext h3.out.2.1 HG2.out)
      have HG3 := Lib.hid HH3.out.1.fine.wf.ok.good
      have HC4 := Lib.hid (HH3.out.1.each2 hk6 (by omega) (by omega) HF3n.out t v)
      clear HC3 h3 HH2 HF2n HG2
      go_wp2_with fail
      refine HC4.out.mono ?_
      rintro e w6 ⟨z4, st4, kc4, ca4, F4, rfl, h4⟩
      have HH4 := Lib.hid h4.out
      have hz34 : z3 = z4 := (HH3.out.2.2.ext h4.out.2.1 HG3.out).eq h4.out.2.2 h4.out.1.fine.wf.ok.good (fun β => each_comm false E v t β)
      subst hz34
      have HF4n := Lib.hid (HF3n.out.ext h4.out.2.1 HG3.out)
      have HG4 := Lib.hid HH4.out.1.fine.wf.ok.good
      have HC5 := Lib.hid (HH4.out.1.restr hk6 (by omega) (by omega) HF4n.out v true)
      clear HC4 h4 HH3 HF3n HG3
      go_wp2_with fail
      refine HC5.out.mono ?_
      rintro e w7 ⟨x, st5, kc5, ca5, F5, rfl, h5⟩
      have HH5 := Lib.hid h5.out
      have HF5n := Lib.hid (HF4n.out.ext h5.out.2.1 HG4.out)
      have HG5 := Lib.hid HH5.out.1.fine.wf.ok.good
      have HC6 := Lib.hid (HH5.out.1.restr hk6 (by omega) (by omega) HH5.out.2.2 v false)
      clear HC5 h5 HH4 HF4n HG4
      go_wp2_with fail
      refine HC6.out.mono ?_
      rintro e w8 ⟨y, st6, kc6, ca6, F6, rfl, h6⟩
      have HH6 := Lib.hid h6.out
      have hxy : y = x := h6.out.2.2.eq (HH5.out.2.2.ext h6.out.2.1 HG5.out) h6.out.1.fine.wf.ok.good (fun β => by show E (putB (putB β v false) v true) = E (putB β v true); rw [putB_twice])
      subst hxy
      have HF6n := Lib.hid (HF5n.out.ext h6.out.2.1 HG5.out)
      have HG6 := Lib.hid HH6.out.1.fine.wf.ok.good
      clear HC6 h6 HH5 HF5n HG5
      by_cases hv0 : v < 0
      · have hv0' : ¬ 0 ≤ v := by omega
        have HN8 : Hid (∃ st kc calls F, MkS w0 w8 k s ((i + 1) * 2560) ((i + 1) * 40) db lb st kc calls F) := ⟨_, _, _, _, HH6.out.1.more (by omega) (by omega)⟩
        clear HH6 HF6n HG6 HG HNF
        go_wp2_with fail
        go_roundg (j + 2 - (i + 1))
        case measure => omega
        case rel => exact ⟨i + 1, by omega, rfl, by go_num, HN8⟩
      have hv0' : 0 ≤ v := by omega
      by_cases hvk : v < (k : Int)
      · obtain ⟨vn, rfl⟩ := Int.eq_ofNat_of_zero_le hv0'
        have HC7 := Lib.hid (HH6.out.1.lit hk6 (by omega) (by omega) (v := vn) (by omega))
        go_wp2_with fail
        refine HC7.out.mono ?_
        rintro e w9 ⟨q, st7, kc7, ca7, F7, rfl, h7⟩
        have HH7 := Lib.hid h7.out
        have HF7n := Lib.hid (HF6n.out.ext h7.out.2.1 HG6.out)
        have HG7 := Lib.hid HH7.out.1.fine.wf.ok.good
        have HC8 := Lib.hid (HH7.out.1.put hk6 (by omega) (by omega) HF7n.out HH7.out.2.2 (vn : Int))
        clear HC7 h7 HH6 HF6n HG6
        go_wp2_with fail
        refine HC8.out.mono ?_
        rintro e wa ⟨r, st8, kc8, ca8, F8, rfl, h8⟩
        have hrf : r = f := h8.out.2.2.eq (HF7n.out.ext h8.out.2.1 HG7.out) h8.out.1.fine.wf.ok.good (fun β => by
          show (if β vn then E (putB β (vn : Int) true) else E (putB β (vn : Int) false)) = E β
          have hown := putB_own β vn
          cases hb : β vn with
          | true => rw [hb] at hown; rw [if_pos rfl, hown]
          | false => rw [hb] at hown; rw [if_neg (by decide), hown])
        subst hrf
        have HNA : Hid (∃ st kc calls F, MkS w0 wa k s ((i + 1) * 2560) ((i + 1) * 40) db lb st kc calls F) := ⟨_, _, _, _, h8.out.1.more (by omega) (by omega)⟩
        clear HC8 h8 HH7 HF7n HG7 HG HNF
        go_wp2_with fail
        go_roundg (j + 2 - (i + 1))
        case measure => omega
        case rel => exact ⟨i + 1, by omega, rfl, by go_num, HNA⟩
      · have HN8 : Hid (∃ st kc calls F, MkS w0 w8 k s ((i + 1) * 2560) ((i + 1) * 40) db lb st kc calls F) := ⟨_, _, _, _, HH6.out.1.more (by omega) (by omega)⟩
        clear HH6 HF6n HG6 HG HNF
        go_wp2_with fail
        go_roundg (j + 2 - (i + 1))
        case measure => omega
        case rel => exact ⟨i + 1, by omega, rfl, by go_num, HN8⟩
    · have hiI : ¬ (i : Int) < (j : Int) + 2 := by omega
      have HM3 := Lib.hid hI
      clear hI
      go_wp2_with fail
      refine (HL.out _).mono ?_
      rintro e w4 ⟨rfl, hb⟩
      obtain ⟨q1, q2⟩ := HEND.out _ HM3.out.kp
      go_wp2_with fail
      go_ret
      exact ⟨rfl, q1.trans (hb.mono q2)⟩
theorem quantOrders_walk (w : World) (ao : Option Addr) (n cap : Nat) (G : Nat → Nat → Value) (R : IsRow w [.int .u64, .int .u64, .int .u64, .int .u64] ao n cap G) (x : Int) (hx0 : 0 ≤ x) (hx1 : x ≤ 18446744073709551615) (cs : Array Value) (sz : cs.size = 2) (fit : Fits [.int .i64, .int .i64] 0 cs.toList) :
    Calls Try.prog 3 #[.slice ao n cap, .int .u64 x, .agg cs] w fun e w' => e = .returned (.bool true) ∧ Below w.heap.size w w' := by
  obtain ⟨X, rfl⟩ := Int.eq_ofNat_of_zero_le hx0
  obtain ⟨os, hos, hO⟩ := R.ops
  obtain ⟨v, t, rfl⟩ : ∃ v t : Int, cs = #[.int .i64 v, .int .i64 t] := by
    obtain ⟨v0, e0, a, rfl, _⟩ := fit 0 _ rfl
    obtain ⟨v1, e1, b, rfl, _⟩ := fit 1 _ rfl
    refine ⟨a, b, ?_⟩
    obtain ⟨l⟩ := cs
    match l, sz, e0, e1 with
    | [p, q], _, e0, e1 =>
      simp at e0 e1
      rw [e0, e1]
  exact quantOrders_core w X (by omega) ao n cap os hos hO R.le v t
end Go.Proofs.Ytipcgjigkipcpaa
