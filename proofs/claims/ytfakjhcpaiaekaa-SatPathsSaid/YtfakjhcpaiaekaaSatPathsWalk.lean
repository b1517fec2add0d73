/-
  The walk of the law SatPaths.
-/
import Derived.Test.YtfakjhcpaiaekaaMT
import Derived.Test.YtfakjhcpaiaekaaItePlayRun
import Derived.Test.YtfakjhcpaiaekaaItePlayOps
set_option linter.unusedVariables false
set_option linter.unusedSimpArgs false
set_option linter.unnecessarySimpa false
namespace Go.Proofs.Ytfakjhcpaiaekaa
open Go.ChangeShapes Go.WideShapes Go.ChangeAt Go.RowKit Go.Deep NodePlain SatPlain
theorem own_nought {w : World} {base b : Nat} {e : TypeId} {size : Nat} (h : w.heap[b]? = some (.cells #[] e (0, 0))) (hb : base ≤ b) : w.ownsRow base e size (.slice (some ⟨b, 0, none⟩) 0 0) 0 [] :=
  ⟨by simp, .inr ⟨b, 0, #[], rfl, hb, h, Nat.le_refl _, by unfold maxLen; omega, by simp, by simp⟩⟩
/-- A row of bools of its own. -/
theorem rowX_own {w : World} {base g m cap : Nat} {R : Nat → Bool} (h : w.ownsRow base 4 1 (.slice (some ⟨g, 0, none⟩) m cap) m ((List.range m).map fun j => Value.bool (R j))) : RowX w g m R := by
  obtain ⟨hl, h | ⟨g', cap', cur, hv, _, hh, _, _, hs, ht⟩⟩ := h
  · cases h.1
  · simp only [Value.slice.injEq, Option.some.injEq, Addr.mk.injEq, and_true] at hv
    obtain ⟨rfl, _, _⟩ := hv
    refine ⟨cur, hh, fun j hj => ?_⟩
    have e : (cur.toList.take (m * 1))[j]? = ((List.range m).map fun j => Value.bool (R j))[j]? := by rw [ht]
    rw [List.getElem?_take_of_lt (by omega), Array.getElem?_toList, List.getElem?_map, List.getElem?_range hj] at e
    exact e
set_option maxRecDepth 100000 in
set_option maxHeartbeats 6400000 in
theorem satPaths_core (w : World) (X : Nat) (hX : X < 18446744073709551616) (ao : Option Addr) (n cap : Nat) (os : List OpR) (hos : os.length = n) (hO : OpRow w ao os) (hcap : n ≤ cap) :
    Calls Try.prog 4 #[.int .u64 X, .slice ao n cap] w fun e w' => e = .returned (.bool true) ∧ Below w.heap.size w w' := by
  obtain ⟨k, hk⟩ : ∃ k, X % 7 = k := ⟨_, rfl⟩
  have hk6 : k ≤ 6 := by omega
  obtain ⟨m, hm⟩ : ∃ m, 2 ^ k = m := ⟨_, rfl⟩
  have HM : Hid (Calls Try.prog 7 #[.int .u64 X] w fun e W' => e = .returned (.int .i64 (k : Int)) ∧ w = W') := by
    have e := many_spec w X hX
    rw [hk] at e
    exact e
  have HN1 : Hid (Calls Try.prog 8 #[.int .i64 (k : Int), .int .i64 1048576] w fun e W' => ∃ db Fp, e = .returned (.pointer (some ⟨db, 0, none⟩)) ∧ Hid (Bd W' db k 1048576 st0 0 Fp ∧ Keeps (fun _ => False) w W' ∧ ∀ x, Fp x → w.heap.size ≤ x)) := bnew_spec w k 1048576 k 1048576 (by omega) (by omega) rfl ⟨by omega, rfl⟩
  have HP : Hid (∀ (W : World) (db : Nat) (B : Int) (Fp : Nat → Prop), Bd W db k B st0 0 Fp → OpRow W ao os → (0 < os.length → ∀ b off, ao = some ⟨b, off, none⟩ → ¬ Fp b) → Calls Try.prog 9 #[.pointer (some ⟨db, 0, none⟩), .int .i64 (k : Int), .slice ao n cap] W (PlayPost k B k m os db Fp W (playM k B k os))) := fun W db B Fp h ho hf => play_spec k hk6 rfl _ hm h ho hos hcap hf
  have HO := Lib.hid hO
  have HB : Hid (0 < os.length → ∀ b off, ao = some ⟨b, off, none⟩ → b < w.heap.size) := fun h0 b off e => by
    obtain ⟨b', off', e', hlt, _⟩ := hO h0
    rw [e'] at e
    simp only [Option.some.injEq, Addr.mk.injEq, and_true] at e
    omega
  have HF := Lib.hid (tells_facts k hk6 m hm os)
  have HL := Lib.hid lives18_any
  have HMS : Hid (∀ {w1 w2 : World} {db : Nat} {Fd Fd' : Nat → Prop} {lv rv : Value} {bs : List Nat} {s : PlS}, playM k 1048576 k os = s → (Bd w1 db k 1048576 st0 0 Fd ∧ Keeps (fun _ => False) w w1 ∧ ∀ x, Fd x → w.heap.size ≤ x) → (Pl w1.heap.size w2 db k 1048576 m s.st s.calls Fd' s.l lv s.Rs rv bs ∧ Mv w1 w2 Fd Fd') → 0 < s.l.length → s.st.n ≤ 23040 → s.calls ≤ 90 →
      ∃ lb lc rb rc, lv = .slice (some ⟨lb, 0, none⟩) s.l.length lc ∧ s.l.length ≤ lc ∧ rv = .slice (some ⟨rb, 0, none⟩) s.l.length rc ∧ s.l.length ≤ rc ∧ bs.length = s.l.length ∧ ∃ F, SatSt w w2 k s 0 db lb rb m bs s.st 90 s.calls F) := fun hs hd pd h0 hn hc => satp_of hk6 hs hd pd h0 hn hc
  have hm64 : m ≤ 64 := by rw [← hm]; exact Nat.le_trans (Nat.pow_le_pow_right (by omega) hk6) (by decide)
  have HM2 := Lib.hid hm
  have HMP : Hid (0 < m) := by show 0 < m; rw [← hm]; exact Nat.two_pow_pos _
  clear hO hX hk hm
  go_enter Try.func4, Try.ntmps4
  go_wp2_with fail
  refine HM.out.mono ?_
  rintro e w' ⟨rfl, rfl⟩
  clear HM
  go_wp2_with fail
  refine HN1.out.mono ?_
  rintro e w1 ⟨db, Fd, rfl, hd⟩
  clear HN1
  have HO1 : Hid (OpRow w1 ao os) := HO.out.keeps hd.out.2.1 (fun _ _ _ x => x)
  have HF1 : Hid (0 < os.length → ∀ b off, ao = some ⟨b, off, none⟩ → ¬ Fd b) := fun h0 b off e hf => by
    have h1 := HB.out h0 b off e
    have := hd.out.2.2 b hf
    omega
  clear HO HB
  go_wp2_with fail
  refine (HP.out w1 db 1048576 Fd hd.out.1 HO1.out HF1.out).mono ?_
  rintro e w2 ⟨lv, rv, bs, Fd', rfl, hpd⟩
  clear HO1 HF1 HP
  obtain ⟨s, hs⟩ : ∃ s, playM k 1048576 k os = s := ⟨_, rfl⟩
  rw [hs] at HF hpd ⊢
  generalize (os.take 30).length = j at HF
  have hj := HF.out.le
  have f1 := HF.out.len
  obtain ⟨lb, lc, rb, rc, rfl, hlc, rfl, hrc, hbl, F0, hS⟩ := HMS.out hs hd.out hpd.out (by omega) HF.out.n HF.out.calls
  have HGS : Hid (NodePlain.Good (k : Int) s.st.L s.st.n) := hS.ms.fine.wf.ok.good
  obtain ⟨i0, hi0, hz0, hz1, hz2⟩ := info_parts binfo
  have HS : Hid (SatSt w w2 k s 0 db lb rb m bs s.st 90 s.calls F0) := hS
  clear hd hpd hS HMS hs
  rw [f1] at hlc hrc hbl ⊢
  clear f1
  go_wp2_with fail
  go_loopg [33] (j + 2) (fun g tt wx => ∃ i : Nat, i ≤ j + 2 ∧ g = j + 2 - i ∧ tt = .int .i64 i ∧ Hid (SatSt w wx k s 0 db lb rb m bs s.st 90 s.calls F0))
  case atStart => exact ⟨0, Nat.zero_le _, rfl, rfl, HS⟩
  case round =>
    clear HS
    obtain ⟨i, hi, rfl, rfl, HI⟩ := hrel
    by_cases hlt : i < j + 2
    · have hiI : (i : Int) < (j : Int) + 2 := by omega
      have hwi : IntKind.i64.wrap ((i : Int) + 1) = (i : Int) + 1 := IntWalk.i64_in _ (by omega)
      have hlc' : i < lc := by omega
      have hrc' : i < rc := by omega
      have hlj : i < j + 2 := hlt
      obtain ⟨f, hx⟩ : ∃ x, s.l[i]? = some x := ⟨_, List.getElem?_eq_getElem (by have := HF.out.len; omega)⟩
      obtain ⟨R, hR⟩ : ∃ R, s.Rs[i]? = some R := ⟨_, List.getElem?_eq_getElem (by have := HF.out.lenR; omega)⟩
      obtain ⟨b, hb⟩ : ∃ b, bs[i]? = some b := ⟨_, List.getElem?_eq_getElem (by omega)⟩
      have hxs := HF.out.is i f hx
      have hc1 := HI.out.ms.l i f hx
      have hsem : ∀ b, ev s.st.L (Nat.testBit b) f = R b := HF.out.sem i f R hx hR
      have HSE := Lib.hid hsem
      have HXS := Lib.hid hxs
      have HRB := Lib.hid (And.intro hR hb)
      obtain ⟨p, hp⟩ : ∃ p, wayL s.st k f = p := ⟨_, rfl⟩
      have HPA := Lib.hid (HI.out.path hk6 (by omega) hxs)
      rw [hp] at HPA
      have HPP := Lib.hid hp
      have hol := on_len HI.out.ms.fine.wf.ok.good (hN := (⟨hxs, fun β => rfl⟩ : Num s.st f (fun β => ev s.st.L β f)))
      have HOL := Lib.hid hol
      clear hx hR hxs hb hsem hp hol
      obtain ⟨v0, hv0⟩ : ∃ v0, decide (f = 0) = v0 := ⟨_, rfl⟩
      rw [hv0] at HPA
      have HV0 := Lib.hid hv0
      clear hv0
      go_wp2_with fail
      refine HPA.out.mono ?_
      rintro e w3 ⟨pv, rfl, h3⟩
      have HI3 := Lib.hid (HI.out.quiet h3.out.1)
      have HK3 := Lib.hid h3.out.1
      have HP3 := Lib.hid h3.out.2
      obtain ⟨R', b', hR', hb'⟩ : ∃ R' b', s.Rs[i]? = some R' ∧ bs[i]? = some b' := ⟨R, b, HRB.out⟩
      have hc2 := HI3.out.r.r i b HRB.out.2
      have HBT := Lib.hid (sbits_spec (HI3.out.r.row i b R HRB.out.2 HRB.out.1).1 (by omega))
      obtain ⟨pa, pc, hpv, hple, hprd⟩ := h3.out.2
      subst hpv
      have hpl : p.length = if f = 0 then 0 else k := by rw [← HPP.out]; exact wayL_len _ _ _
      have HPR := Lib.hid hprd
      have HPL := Lib.hid hpl
      clear h3 HPA HI hprd hpl hc1 hR' hb'
      generalize hpn : p.length = pn at *
      cases v0 with
      | true =>
        have hf0 : f = 0 := of_decide_eq_true HV0.out
        have hpn0 : pn = 0 := by have := HPL.out; rw [if_pos hf0] at this; exact this
        subst hpn0
        go_wp2_with fail
        refine HBT.out.mono ?_
        rintro e w4 ⟨v4, rfl, h4⟩
        have HK4 := Lib.hid h4.out.1
        have HI4 := Lib.hid (HI3.out.quiet h4.out.1)
        obtain ⟨la, cl, hv4, _⟩ := own_form h4.out.2
        have hLL : (bitsR R m).length = (onL (fun β => ev s.st.L β f) 0 (2 ^ k)).length := by rw [bits_on (E := fun β => ev s.st.L β f) HSE.out, HM2.out]
        obtain ⟨L, hL⟩ : ∃ L, (bitsR R m).length = L := ⟨_, rfl⟩
        rw [hL] at hLL hv4
        subst hv4
        have hL0 : L = 0 := by rw [hLL]; exact HOL.out.1.1 hf0
        subst hL0
        clear hLL hL h4 HBT hc2
        have ha4 := (MapKept.heap_alloc w4 (.cells #[] 4)).1
        have hk4a : Keeps (fun _ => False) w4 (w4.alloc (.cells #[] 4)) := (Keeps.refl _ _).alloc _
        have hr4 := (HI4.out.r.row i b R HRB.out.2 HRB.out.1).1
        have hc4 := (hk4a.cell (p := ⟨rb, i, none⟩) HI4.out.r.lt (fun x => x)).trans (HI4.out.r.r i b HRB.out.2)
        obtain ⟨news, hnews0⟩ : ∃ l, (List.range m).map (fun j => Value.bool (R j)) = l := ⟨_, rfl⟩
        have hnl : news.length = m * 1 := by rw [← hnews0]; simp
        have hnw : ∀ q u, news[q]? = some u → (w4.alloc (.cells #[] 4)).cell? ((⟨b, 0, none⟩ : Addr).add q) = some u := fun q u hq => by
          rw [← hnews0, List.getElem?_map] at hq
          rw [Addr.add_lit, Nat.zero_add]
          rcases Nat.lt_or_ge q m with h | h
          · rw [List.getElem?_range h] at hq
            obtain rfl := Option.some.inj hq
            exact (hr4.keeps hk4a (fun x => x)).cell h
          · rw [List.getElem?_eq_none (by simpa using h)] at hq; cases hq
        have hn1c : ∀ u ∈ news, u.oneCell' = true := fun u hu => by
          rw [← hnews0] at hu
          obtain ⟨x, _, rfl⟩ := List.mem_map.1 hu
          rfl
        have HNW := Lib.hid hnews0
        have HMPo := HMP.out
        clear hnews0
        go_wp2_with (at_builtin; refine wpList_append_own _ rfl _ _ 33 rfl w4.heap.size 4 i0 _ 1 1 Try.underlying33 hi0 hz0 hz1 hz2 rfl (by decide) _ _ _ rfl (own_nought ha4 (Nat.le_refl _)) ⟨b, 0, none⟩ m m news rfl hnl hnw hn1c (by unfold maxLen; omega) (by omega) (by simp) ?_)
        intro v5 w5 hown5 hgrow5 _
        obtain ⟨ao5, cl5, hv5, hle5, _, hno5, hb5⟩ := own_form hown5
        obtain ⟨bl, rfl⟩ : ∃ bl, ao5 = some ⟨bl, 0, none⟩ := by
          cases ao5 with
          | none => have := (hno5 rfl).1; omega
          | some a =>
            obtain ⟨q1, q2, _⟩ := hb5 a rfl
            obtain ⟨x, y, z⟩ := a
            simp only at q1 q2
            subst q1 q2
            exact ⟨x, rfl⟩
        have hbl := own_block hown5 bl (by rw [hv5]; rfl)
        have k45 : Keeps (fun _ => False) w4 w5 := hk4a.trans_new (keeps_grown hgrow5) (fun q hq e => by simp only [Value.ownBlock, Option.some.injEq] at e; omega)
        have HRX : Hid (RowX w5 bl m (wayR s.st f 0)) := by
          rw [hv5, ← HNW.out] at hown5
          exact (rowX_own hown5).congr (fun j _ => (HSE.out j).symm)
        have HK5 : Hid (Keeps (fun _ => False) w3 w5) := HK4.out.trans k45
        have HBL : Hid (w3.heap.size ≤ bl) := Nat.le_trans HK4.out.size hbl
        subst hv5
        clear hown5 hgrow5 hno5 hb5 hbl k45 hnl hnw hn1c ha4 hk4a hr4 hc4 HNW
        go_wp2_with fail
        go_loopg [79] 0 (fun g tt wx => ∃ v : Nat, v ≤ 0 ∧ g = 0 - v ∧ tt = .int .i64 v ∧ Hid (Keeps (fun q => q = bl) w5 wx ∧ RowX wx bl m (wayR s.st f v)))
        case atStart => exact ⟨0, Nat.zero_le _, rfl, rfl, Keeps.refl _ _, HRX.out⟩
        case round =>
          clear HRX
          obtain ⟨v, hv, rfl, rfl, HW⟩ := hrel
          by_cases hvp : v < 0
          · omega
          · obtain rfl : v = 0 := by omega
            have hvI : ¬ (((0 : Nat) : Int) < ((0 : Nat) : Int)) := by omega
            have HN : Hid (SatSt w wr k s 0 db lb rb m bs s.st 90 s.calls F0) := HI3.out.quiet (HK5.out.trans_new HW.out.1 (fun q hq e => by have := HBL.out; omega))
            clear HW HK5 HBL HI3 HI4 HK4 HP3
            go_wp2_with fail
            go_roundg (j + 2 - (i + 1))
            case measure => omega
            case rel => exact ⟨i + 1, by omega, rfl, by go_num, HN⟩
      | false =>
        have hf0 : f ≠ 0 := of_decide_eq_false HV0.out
        have hpn0 : pn = k := by have := HPL.out; rw [if_neg hf0] at this; exact this
        obtain rfl := hpn0.symm
        go_wp2_with fail
        refine HBT.out.mono ?_
        rintro e w4 ⟨v4, rfl, h4⟩
        have HK4 := Lib.hid h4.out.1
        have HI4 := Lib.hid (HI3.out.quiet h4.out.1)
        obtain ⟨la, cl, hv4, _⟩ := own_form h4.out.2
        have hLL : (bitsR R m).length = (onL (fun β => ev s.st.L β f) 0 (2 ^ k)).length := by rw [bits_on (E := fun β => ev s.st.L β f) HSE.out, HM2.out]
        obtain ⟨L, hL⟩ : ∃ L, (bitsR R m).length = L := ⟨_, rfl⟩
        rw [hL] at hLL hv4
        subst hv4
        have hLp : 0 < L := by
          rcases Nat.eq_zero_or_pos L with h | h
          · exact absurd (HOL.out.1.2 (by rw [← hLL]; exact h)) hf0
          · exact h
        have hLI : (0 : Int) < (L : Int) := by omega
        clear hLL hL h4 HBT hc2
        have ha4 := (MapKept.heap_alloc w4 (.cells #[] 4)).1
        have hk4a : Keeps (fun _ => False) w4 (w4.alloc (.cells #[] 4)) := (Keeps.refl _ _).alloc _
        have hr4 := (HI4.out.r.row i b R HRB.out.2 HRB.out.1).1
        have hc4 := (hk4a.cell (p := ⟨rb, i, none⟩) HI4.out.r.lt (fun x => x)).trans (HI4.out.r.r i b HRB.out.2)
        obtain ⟨news, hnews0⟩ : ∃ l, (List.range m).map (fun j => Value.bool (R j)) = l := ⟨_, rfl⟩
        have hnl : news.length = m * 1 := by rw [← hnews0]; simp
        have hnw : ∀ q u, news[q]? = some u → (w4.alloc (.cells #[] 4)).cell? ((⟨b, 0, none⟩ : Addr).add q) = some u := fun q u hq => by
          rw [← hnews0, List.getElem?_map] at hq
          rw [Addr.add_lit, Nat.zero_add]
          rcases Nat.lt_or_ge q m with h | h
          · rw [List.getElem?_range h] at hq
            obtain rfl := Option.some.inj hq
            exact (hr4.keeps hk4a (fun x => x)).cell h
          · rw [List.getElem?_eq_none (by simpa using h)] at hq; cases hq
        have hn1c : ∀ u ∈ news, u.oneCell' = true := fun u hu => by
          rw [← hnews0] at hu
          obtain ⟨x, _, rfl⟩ := List.mem_map.1 hu
          rfl
        have HNW := Lib.hid hnews0
        have HMPo := HMP.out
        clear hnews0
        go_wp2_with (at_builtin; refine wpList_append_own _ rfl _ _ 33 rfl w4.heap.size 4 i0 _ 1 1 Try.underlying33 hi0 hz0 hz1 hz2 rfl (by decide) _ _ _ rfl (own_nought ha4 (Nat.le_refl _)) ⟨b, 0, none⟩ m m news rfl hnl hnw hn1c (by unfold maxLen; omega) (by omega) (by simp) ?_)
        intro v5 w5 hown5 hgrow5 _
        obtain ⟨ao5, cl5, hv5, hle5, _, hno5, hb5⟩ := own_form hown5
        obtain ⟨bl, rfl⟩ : ∃ bl, ao5 = some ⟨bl, 0, none⟩ := by
          cases ao5 with
          | none => have := (hno5 rfl).1; omega
          | some a =>
            obtain ⟨q1, q2, _⟩ := hb5 a rfl
            obtain ⟨x, y, z⟩ := a
            simp only at q1 q2
            subst q1 q2
            exact ⟨x, rfl⟩
        have hbl := own_block hown5 bl (by rw [hv5]; rfl)
        have k45 : Keeps (fun _ => False) w4 w5 := hk4a.trans_new (keeps_grown hgrow5) (fun q hq e => by simp only [Value.ownBlock, Option.some.injEq] at e; omega)
        have HRX : Hid (RowX w5 bl m (wayR s.st f 0)) := by
          rw [hv5, ← HNW.out] at hown5
          exact (rowX_own hown5).congr (fun j _ => (HSE.out j).symm)
        have HK5 : Hid (Keeps (fun _ => False) w3 w5) := HK4.out.trans k45
        have HBL : Hid (w3.heap.size ≤ bl) := Nat.le_trans HK4.out.size hbl
        subst hv5
        clear hown5 hgrow5 hno5 hb5 hbl k45 hnl hnw hn1c ha4 hk4a hr4 hc4 HNW
        go_wp2_with fail
        go_loopg [79] k (fun g tt wx => ∃ v : Nat, v ≤ k ∧ g = k - v ∧ tt = .int .i64 v ∧ Hid (Keeps (fun q => q = bl) w5 wx ∧ RowX wx bl m (wayR s.st f v)))
        case atStart => exact ⟨0, Nat.zero_le _, rfl, rfl, Keeps.refl _ _, HRX.out⟩
        case round =>
          clear HRX
          obtain ⟨v, hv, rfl, rfl, HW⟩ := hrel
          by_cases hvp : v < k
          · obtain ⟨x, hx⟩ : ∃ x, p[v]? = some x := ⟨_, List.getElem?_eq_getElem (by rw [hpn]; exact hvp)⟩
            obtain ⟨pg, poff, rfl, hpg, hpc⟩ := HPR.out (by omega)
            have hcx := hpc v x hx
            have hxw : x = wayV s.st.L s.st.n v (wayAt s.st.L s.st.n f v) := by
              have h1 := HPP.out
              unfold wayL at h1
              rw [if_neg hf0] at h1
              rw [← h1, List.getElem?_map, List.getElem?_range hvp] at hx
              exact (Option.some.inj hx).symm
            have hcw : wr.cell? ⟨pg, poff + v, none⟩ = some (.int .i64 x) := (HW.out.1.cell (p := ⟨pg, poff + v, none⟩) (Nat.lt_of_lt_of_le hpg HK5.out.size) (fun e => by have e' : pg = bl := e; have := HBL.out; omega)).trans ((HK5.out.cell (p := ⟨pg, poff + v, none⟩) hpg (fun x => x)).trans hcx)
            have hvI : (v : Int) < (k : Int) := by omega
            have hvpc : v < pc := by omega
            have hwv : IntKind.i64.wrap ((v : Int) + 1) = (v : Int) + 1 := IntWalk.i64_in _ (by omega)
            have HCH := Lib.hid (look_way HGS.out HXS.out hf0 HW.out.2 hle5 hk6 HM2.out hvp)
            rw [← hxw] at HCH
            have HKW := Lib.hid HW.out.1
            clear hx hcx hpc hxw HW
            go_wp2_with fail
            refine HCH.out.mono ?_
            rintro e w6 ⟨rfl, h6⟩
            have HN : Hid (Keeps (fun q => q = bl) w5 w6 ∧ RowX w6 bl m (wayR s.st f (v + 1))) := ⟨HKW.out.trans h6.out.1, h6.out.2⟩
            clear HCH h6 HKW
            go_wp2_with fail
            go_roundg (k - (v + 1))
            case measure => omega
            case rel => exact ⟨v + 1, by omega, rfl, by go_num, HN⟩
          · have hvk : v = k := by omega
            subst v
            have hvI : ¬ ((k : Int) < (k : Int)) := by omega
            have HN : Hid (SatSt w wr k s 0 db lb rb m bs s.st 90 s.calls F0) := HI3.out.quiet (HK5.out.trans_new HW.out.1 (fun q hq e => by have := HBL.out; omega))
            clear HW HK5 HBL HI3 HI4 HK4 HP3
            go_wp2_with fail
            go_roundg (j + 2 - (i + 1))
            case measure => omega
            case rel => exact ⟨i + 1, by omega, rfl, by go_num, HN⟩
    · have hiI : ¬ (i : Int) < (j : Int) + 2 := by omega
      have HM3 : Hid (Below w.heap.size w wr) := HI.out.ms.below
      clear HI
      go_wp2_with fail
      refine (HL.out _).mono ?_
      rintro e w4 ⟨rfl, hb⟩
      go_wp2_with fail
      go_ret
      exact ⟨rfl, HM3.out.trans (hb.mono HM3.out.size)⟩
theorem satPaths_walk (w : World) (x : Int) (hx0 : 0 ≤ x) (hx1 : x ≤ 18446744073709551615) (ao : Option Addr) (n cap : Nat) (G : Nat → Nat → Value) (R : IsRow w [.int .u64, .int .u64, .int .u64, .int .u64] ao n cap G) :
    Calls Try.prog 4 #[.int .u64 x, .slice ao n cap] w fun e w' => e = .returned (.bool true) ∧ Below w.heap.size w w' := by
  obtain ⟨X, rfl⟩ := Int.eq_ofNat_of_zero_le hx0
  obtain ⟨os, hos, hO⟩ := R.ops
  exact satPaths_core w X (by omega) ao n cap os hos hO R.le
end Go.Proofs.Ytfakjhcpaiaekaa
