/-
  The walk of the law SatTells.
-/
import Derived.Test.YtfakjhcpaiaekaaSatLawState
import Derived.Test.YtfakjhcpaiaekaaItePlayRun
import Derived.Test.YtfakjhcpaiaekaaItePlayOps
import Derived.Test.YtfakjhcpaiaekaaMA
import Derived.Deep.RegionWith
import Derived.Deep.RegionHeld3
set_option linter.unusedVariables false
set_option linter.unusedSimpArgs false
set_option linter.unnecessarySimpa false
namespace Go.Proofs.Ytfakjhcpaiaekaa
open Go.ChangeShapes Go.WideShapes Go.ChangeAt Go.RowKit Go.Deep NodePlain SatPlain
/-- Behind the play: the maker, the list, the rows. -/
theorem sat_of {k : Nat} {s : PlS} {w w1 w2 : World} {Fd Fd' : Nat → Prop} {m d : Nat} {lv rv : Value} {bs : List Nat} {os : List OpR} (hk6 : k ≤ 6) (hs : playM k 1048576 k os = s) (hd : Bd w1 d k 1048576 st0 0 Fd ∧ Keeps (fun _ => False) w w1 ∧ ∀ x, Fd x → w.heap.size ≤ x) (pd : Pl w1.heap.size w2 d k 1048576 m s.st s.calls Fd' s.l lv s.Rs rv bs ∧ Mv w1 w2 Fd Fd') (h0 : 0 < s.l.length) (hn : s.st.n ≤ 23040) (hc : s.calls ≤ 90) :
    ∃ lb lc rb rc, lv = .slice (some ⟨lb, 0, none⟩) s.l.length lc ∧ s.l.length ≤ lc ∧ rv = .slice (some ⟨rb, 0, none⟩) s.l.length rc ∧ s.l.length ≤ rc ∧ bs.length = s.l.length ∧ ∃ F, SatSt w w2 k s 0 d lb rb m bs s.st 90 s.calls F := by
  obtain ⟨lb, lc, rb, rc, e1, e2, e3, e4, e5, e5', e6, e6', e7, e7'⟩ := pd.1.form h0
  have q1 := hd.2.1.size
  have k2 : Keeps (fun x => w.heap.size ≤ x) w w1 := hd.2.1.mono (fun _ _ x => x.elim)
  have k3 : Keeps (fun x => w.heap.size ≤ x) w w2 := k2.trans_new pd.2.keeps (fun i hi hx => hd.2.2 i hx)
  obtain ⟨j, hj, _, hI, _⟩ := playM_inv (V := k) (B := 1048576) (by omega) (by omega) k os
  have hB := playM_bnd (V := k) (B := 1048576) (by omega) k os
  rw [hs] at hI hB
  refine ⟨lb, lc, rb, rc, e1, e3, e2, e4, pd.1.l1, Fd', ⟨⟨pd.1.bd, ⟨hI.wf.mono (by omega), hB⟩, Ext.refl _ _, by omega, Nat.le_refl _, by omega, by omega, e5, e6, fun x hx => ?_, e7, k3, ?_⟩, ⟨e7', fun i b R h1 h2 => pd.1.row i b R h1 h2, e5', e6'⟩⟩⟩
  · exact (pd.2.fp x hx).elim (hd.2.2 x) (fun hx => by omega)
  · have := pd.1.lz lb (by rw [e1]; rfl)
    omega
theorem take_same {l : List Nat} {n : Int} (h : l.length ≤ 1000) : l.take (max 0 (min n 1000)).toNat = l.take (max 0 (min n (l.length : Int))).toNat := by
  rcases Int.lt_or_le (l.length : Int) n with h1 | h1
  · rw [List.take_of_length_le (by omega), List.take_of_length_le (by omega)]
  · rw [show (max 0 (min n 1000)).toNat = (max 0 (min n (l.length : Int))).toNat by omega]
set_option maxRecDepth 100000 in
set_option maxHeartbeats 6400000 in
theorem satTells_core (w : World) (X : Nat) (hX : X < 18446744073709551616) (ao : Option Addr) (n cap : Nat) (os : List OpR) (hos : os.length = n) (hO : OpRow w ao os) (hcap : n ≤ cap) (z : Int) :
    Calls Try.prog 3 #[.int .u64 X, .slice ao n cap, .int .i64 z] w fun e w' => e = .returned (.bool true) ∧ Below w.heap.size w w' := by
  obtain ⟨k, hk⟩ : ∃ k, X % 7 = k := ⟨_, rfl⟩
  have hk6 : k ≤ 6 := by omega
  obtain ⟨m, hm⟩ : ∃ m, 2 ^ k = m := ⟨_, rfl⟩
  have HM : Hid (Calls Try.prog 7 #[.int .u64 X] w fun e W' => e = .returned (.int .i64 (k : Int)) ∧ w = W') := by
    have e := many_spec w X hX
    rw [hk] at e
    exact e
  have HN1 : Hid (Calls Try.prog 8 #[.int .i64 (k : Int), .int .i64 1048576] w fun e W' => ∃ db Fp, e = .returned (.pointer (some ⟨db, 0, none⟩)) ∧ Hid (Bd W' db k 1048576 st0 0 Fp ∧ Keeps (fun _ => False) w W' ∧ ∀ x, Fp x → w.heap.size ≤ x)) := bnew_spec w k 1048576 k 1048576 (by omega) (by omega) rfl ⟨by omega, rfl⟩
  have HP : Hid (∀ (W : World) (db : Nat) (B : Int) (Fp : Nat → Prop), Bd W db k B st0 0 Fp → OpRow W ao os → (0 < os.length → ∀ b off, ao = some ⟨b, off, none⟩ → ¬ Fp b) → Calls Try.prog 9 #[.pointer (some ⟨db, 0, none⟩), .int .i64 (k : Int), .slice ao n cap] W (PlayPost k B k m os db Fp W (playM k B k os))) := fun W db B Fp h ho hf => play_spec k hk6 rfl _ hm h ho hos hcap hf
  have HO := Lib.hid hO
  have HB : Hid (0 < os.length → ∀ b off, ao = some ⟨b, off, none⟩ → b < w.heap.size) := fun h0 b off e => by
    obtain ⟨b', off', e', hlt, _⟩ := hO h0
    rw [e'] at e
    simp only [Option.some.injEq, Addr.mk.injEq, and_true] at e
    omega
  have HF := Lib.hid (tells_facts k hk6 m hm os)
  have HL := Lib.hid lives18_any
  have HMS : Hid (∀ {w1 w2 : World} {db : Nat} {Fd Fd' : Nat → Prop} {lv rv : Value} {bs : List Nat} {s : PlS}, playM k 1048576 k os = s → (Bd w1 db k 1048576 st0 0 Fd ∧ Keeps (fun _ => False) w w1 ∧ ∀ x, Fd x → w.heap.size ≤ x) → (Pl w1.heap.size w2 db k 1048576 m s.st s.calls Fd' s.l lv s.Rs rv bs ∧ Mv w1 w2 Fd Fd') → 0 < s.l.length → s.st.n ≤ 23040 → s.calls ≤ 90 →
      ∃ lb lc rb rc, lv = .slice (some ⟨lb, 0, none⟩) s.l.length lc ∧ s.l.length ≤ lc ∧ rv = .slice (some ⟨rb, 0, none⟩) s.l.length rc ∧ s.l.length ≤ rc ∧ bs.length = s.l.length ∧ ∃ F, SatSt w w2 k s 0 db lb rb m bs s.st 90 s.calls F) := fun hs hd pd h0 hn hc => sat_of hk6 hs hd pd h0 hn hc
  have hm64 : m ≤ 64 := by rw [← hm]; exact Nat.le_trans (Nat.pow_le_pow_right (by omega) hk6) (by decide)
  have HM2 := Lib.hid hm
  have HMP : Hid (0 < m) := by show 0 < m; rw [← hm]; exact Nat.two_pow_pos _
  clear hO hX hk hm
  go_enter Try.func3, Try.ntmps3
  go_wp2_with fail
  refine HM.out.mono ?_
  rintro e w' ⟨rfl, rfl⟩
  clear HM
  go_wp2_with fail
  refine HN1.out.mono ?_
  rintro e w1 ⟨db, Fd, rfl, hd⟩
  clear HN1
  have HO1 : Hid (OpRow w1 ao os) := HO.out.keeps hd.out.2.1 (fun _ _ _ x => x)
  have HF1 : Hid (0 < os.length → ∀ b off, ao = some ⟨b, off, none⟩ → ¬ Fd b) := fun h0 b off e hf => by
    have h1 := HB.out h0 b off e
    have := hd.out.2.2 b hf
    omega
  clear HO HB
  go_wp2_with fail
  refine (HP.out w1 db 1048576 Fd hd.out.1 HO1.out HF1.out).mono ?_
  rintro e w2 ⟨lv, rv, bs, Fd', rfl, hpd⟩
  clear HO1 HF1 HP
  obtain ⟨s, hs⟩ : ∃ s, playM k 1048576 k os = s := ⟨_, rfl⟩
  rw [hs] at HF hpd ⊢
  generalize (os.take 30).length = j at HF
  have hj := HF.out.le
  have f1 := HF.out.len
  obtain ⟨lb, lc, rb, rc, rfl, hlc, rfl, hrc, hbl, F0, hS⟩ := HMS.out hs hd.out hpd.out (by omega) HF.out.n HF.out.calls
  have HGS : Hid (NodePlain.Good (k : Int) s.st.L s.st.n) := hS.ms.fine.wf.ok.good
  have HS : Hid (∃ st kc calls F, SatSt w w2 k s (0 * 288) db lb rb m bs st kc calls F) := ⟨_, _, _, _, by rw [Nat.zero_mul]; exact hS⟩
  clear hd hpd hS HMS hs
  rw [f1] at hlc hrc hbl ⊢
  clear f1
  go_wp2_with fail
  go_loopg [35] (j + 2) (fun g tt wx => ∃ i : Nat, i ≤ j + 2 ∧ g = j + 2 - i ∧ tt = .int .i64 i ∧ Hid (∃ st kc calls F, SatSt w wx k s (i * 288) db lb rb m bs st kc calls F))
  case atStart => exact ⟨0, Nat.zero_le _, rfl, rfl, HS⟩
  case round =>
    clear HS
    obtain ⟨i, hi, rfl, rfl, HI⟩ := hrel
    obtain ⟨st, kc, calls, F, hI⟩ := HI.out
    clear HI
    by_cases hlt : i < j + 2
    · have hiI : (i : Int) < (j : Int) + 2 := by omega
      have hwi : IntKind.i64.wrap ((i : Int) + 1) = (i : Int) + 1 := IntWalk.i64_in _ (by omega)
      have hlc' : i < lc := by omega
      have hrc' : i < rc := by omega
      have hlj : i < j + 2 := hlt
      obtain ⟨f, hx⟩ : ∃ x, s.l[i]? = some x := ⟨_, List.getElem?_eq_getElem (by have := HF.out.len; omega)⟩
      obtain ⟨R, hR⟩ : ∃ R, s.Rs[i]? = some R := ⟨_, List.getElem?_eq_getElem (by have := HF.out.lenR; omega)⟩
      obtain ⟨b, hb⟩ : ∃ b, bs[i]? = some b := ⟨_, List.getElem?_eq_getElem (by omega)⟩
      have hxs := HF.out.is i f hx
      have hc1 := hI.ms.l i f hx
      have hc2 := hI.r.r i b hb
      have hrow := (hI.r.row i b R hb hR).1
      obtain ⟨E, hE⟩ : ∃ E : (Nat → Bool) → Bool, (fun β => ev s.st.L β f) = E := ⟨_, rfl⟩
      have HN0 : Hid (Num s.st f E) := ⟨hxs, fun β => by rw [← hE]⟩
      have hsem : ∀ b, E (Nat.testBit b) = R b := fun b => by rw [← hE]; exact HF.out.sem i f R hx hR b
      have HSE := Lib.hid hsem
      have HI := Lib.hid hI
      have HBB := Lib.hid hb
      have HBT := Lib.hid (sbits_spec hrow (by omega))
      clear hx hR hxs hrow hE hI hb hsem
      go_wp2_with fail
      refine HBT.out.mono ?_
      rintro e w3 ⟨v3, rfl, h3⟩
      obtain ⟨l, hl⟩ : ∃ l, onL E 0 m = l := ⟨_, rfl⟩
      have hou := h3.out.2
      rw [bits_on HSE.out, hl] at hou
      have HI3 := Lib.hid (HI.out.quiet h3.out.1)
      have HU3 := Lib.hid (UrF.own hou HI.out.ms.bd.lt)
      obtain ⟨la, cl, hv, hle, hrd⟩ := HU3.out.rd
      obtain ⟨L, hL⟩ : ∃ L, l.length = L := ⟨_, rfl⟩
      have hL64 : L ≤ 64 := by
        rw [← hL, ← hl]
        unfold onL
        refine Nat.le_trans (List.length_filter_le _ _) ?_
        rw [List.length_range']; exact hm64
      obtain ⟨t, ht⟩ : ∃ t, (max 0 (min z (L : Int))).toNat = t := ⟨_, rfl⟩
      obtain ⟨mn, hmn⟩ : ∃ mn, (if (L : Int) < z then (L : Int) else z) = mn := ⟨_, rfl⟩
      have hmx : (if 0 < mn then mn else 0) = (t : Int) := by
        rw [← hmn]
        split <;> split <;> omega
      have htL : t ≤ L := by omega
      have ht0 : (0 : Int) ≤ (t : Int) := by omega
      have htc : (t : Int) ≤ (cl : Int) := by omega
      have hwL : IntKind.u64.wrap (L : Int) = (L : Int) := IntWalk.u64_in _ (by omega)
      rw [hL] at hv
      subst hv
      have HN3 := Lib.hid (HN0.out.ext HI3.out.ms.ext HGS.out)
      have hlen : (onL E 0 (2 ^ k)).length = L := by rw [HM2.out, hl, hL]
      have hcA : cAll st.L k f = L := by rw [cAll_num HN3.out, cnt_all, hlen]
      have hol := on_len HI3.out.ms.fine.wf.ok.good HN3.out
      rw [hlen, HM2.out] at hol
      have hb0 : ((L : Int) == 0) = decide (f = 0) := by
        by_cases e : f = 0
        · rw [decide_eq_true e]; have := hol.1.1 e; rw [beq_iff_eq]; omega
        · rw [decide_eq_false e, beq_eq_false_iff_ne]; intro h; exact e (hol.1.2 (by omega))
      have hb1 : ((L : Int) == (m : Int)) = decide (f = 1) := by
        by_cases e : f = 1
        · rw [decide_eq_true e]; have := hol.2.1 e; rw [beq_iff_eq]; omega
        · rw [decide_eq_false e, beq_eq_false_iff_ne]; intro h; exact e (hol.2.2 (by omega))
      have hn3 := HI3.out.ms.n
      have hfI := isN_iff.1 HN3.out.is
      have HCNT : Hid (Calls Try.prog 11 #[.pointer (some ⟨db, 0, none⟩), .int .i64 f] w3.drew fun e W' => e = .returned (.int .u64 (L : Int)) ∧ Hid (Keeps (fun _ => False) w3.drew W')) := by
        have q := scount_spec (HI3.out.ms.bd.quiet ((Keeps.refl (fun _ => False) w3).drew)) hk6 HI3.out.ms.fine.wf.ok.good (by omega) HN3.out.is
        rw [hcA] at q
        exact q
      have HFST : Hid (∀ W', Keeps (fun _ => False) w3 W' → Calls Try.prog 13 #[.pointer (some ⟨db, 0, none⟩), .int .i64 f, .int .i64 z] W' fun e W2 => ∃ vo st' K' c' F', e = .returned vo ∧ Hid (GoneR W' db k 1048576 st kc calls F 126 st' K' c' F' W2 ∧ ReadsU W2 vo (l.take (max 0 (min z 1000)).toNat))) := fun W' hk => by
        have q := (HI3.out.quiet hk).first hk6 (by omega) HN3.out z
        rw [HM2.out, hl] at q
        exact q
      have HLL := Lib.hid (And.intro hL (And.intro ht htL))
      have HHL := Lib.hid hl
      have HOL := Lib.hid hol
      have HNI := Lib.hid hn3
      have hS3 : (fun w' => w'.cell? ⟨rb, i, none⟩ = some (.slice (some ⟨b, 0, none⟩) m m)) w3.drew := HI3.out.r.r i b HBB.out
      obtain ⟨v0, hv0⟩ : ∃ v0, decide (f = 0) = v0 := ⟨_, rfl⟩
      obtain ⟨v1, hv1⟩ : ∃ v1, decide (f = 1) = v1 := ⟨_, rfl⟩
      rw [hv0] at hb0
      rw [hv1] at hb1
      have HV0 := Lib.hid hv0
      have HV1 := Lib.hid hv1
      clear hrd hol hlen hcA hL hl hou h3 hn3 HBT hc1 hc2 HI HSE ht hv0 hv1
      go_upto_region 10 with fail
      refine wp_region_noPanic ?_
      refine wp_region_held_drew (S := (fun w' => w'.cell? ⟨rb, i, none⟩ = some (.slice (some ⟨b, 0, none⟩) m m))) (by kernel_rfl) hS3 (fun hHeld => ?_)
      refine wpAnyH_take_at (i := 0) (v := ?v0a) rfl (by kernel_rfl) (by kernel_rfl) (by kernel_rfl) (fun _ _ _ h => h) (Or.inl ⟨by rfl, ?y0a⟩) hHeld ?r0a
      case y0a => (intro w hSw; (try dsimp only at hSw); go_simp; first | done | with_reducible rfl)
      (try simp only [Act.put, List.setIfInBounds_toArray, List.set_cons_zero, List.set_cons_succ])
      refine wpAnyH_take_at (i := 1) (v := ?v1a) rfl (by kernel_rfl) (by kernel_rfl) (by kernel_rfl) (fun _ _ _ h => h) (Or.inl ⟨by rfl, ?y1a⟩) hHeld ?r1a
      case y1a => (intro w hSw; (try dsimp only at hSw); go_simp; first | done | with_reducible rfl)
      (try simp only [Act.put, List.setIfInBounds_toArray, List.set_cons_zero, List.set_cons_succ])
      refine wpAnyH_take_at (i := 3) (v := ?v3a) rfl (by kernel_rfl) (by kernel_rfl) (by kernel_rfl) (fun _ _ _ h => h) (Or.inl ⟨by rfl, ?y3a⟩) hHeld ?r3a
      case y3a => (intro w hSw; (try dsimp only at hSw); go_simp; first | done | with_reducible rfl)
      (try simp only [Act.put, List.setIfInBounds_toArray, List.set_cons_zero, List.set_cons_succ])
      refine wpAnyH_take_at (i := 4) (v := ?v4a) rfl (by kernel_rfl) (by kernel_rfl) (by kernel_rfl) (fun _ _ _ h => h) (Or.inl ⟨by rfl, ?y4a⟩) hHeld ?r4a
      case y4a => (intro w hSw; (try dsimp only at hSw); go_simp; first | done | with_reducible rfl)
      (try simp only [Act.put, List.setIfInBounds_toArray, List.set_cons_zero, List.set_cons_succ])
      refine wpAnyH_take_at (i := 5) (v := ?v5a) rfl (by kernel_rfl) (by kernel_rfl) (by kernel_rfl) (fun _ _ _ h => h) (Or.inl ⟨by rfl, ?y5a⟩) hHeld ?r5a
      case y5a => (intro w hSw; (try dsimp only at hSw); go_simp; first | done | with_reducible rfl)
      (try simp only [Act.put, List.setIfInBounds_toArray, List.set_cons_zero, List.set_cons_succ])
      refine wpAnyH_one (i := 2) (by kernel_rfl) rfl (fun KK hK => ?_)
      go_simp
      refine HCNT.out.mono ?_
      rintro e w4 ⟨rfl, h4⟩
      go_simp
      have K4 : Hid (Keeps (fun _ => False) w3 w4) := ((Keeps.refl (fun _ => False) w3).drew).trans h4.out
      have HF4 := Lib.hid (HFST.out w4 K4.out)
      have HI4 := Lib.hid (HI3.out.quiet K4.out)
      have HU4 := Lib.hid (HU3.out.move (Mv.quiet (Fp := F) K4.out))
      clear HCNT HFST HU3
      refine hK.out _ _ ?s2a (fun hHeld => ?_)
      case s2a => exact HI4.out.r.r i b HBB.out
      clear hK KK
      (try simp only [Act.put, List.setIfInBounds_toArray, List.set_cons_zero, List.set_cons_succ])
      refine wpAnyH_take_at (i := 6) (v := ?v6a) rfl (by kernel_rfl) (by kernel_rfl) (by kernel_rfl) (fun _ _ _ h => h) (Or.inl ⟨by rfl, ?y6a⟩) hHeld ?r6a
      case y6a => (intro w hSw; (try dsimp only at hSw); go_simp; first | done | with_reducible rfl)
      (try simp only [Act.put, List.setIfInBounds_toArray, List.set_cons_zero, List.set_cons_succ])
      refine wpAnyH_take_at (i := 7) (v := ?v7a) rfl (by kernel_rfl) (by kernel_rfl) (by kernel_rfl) (fun _ _ _ h => h) (Or.inl ⟨by rfl, ?y7a⟩) hHeld ?r7a
      case y7a => (intro w hSw; (try dsimp only at hSw); go_simp; first | done | with_reducible rfl)
      (try simp only [Act.put, List.setIfInBounds_toArray, List.set_cons_zero, List.set_cons_succ])
      refine wpAnyH_take_at (i := 8) (v := ?v8a) rfl (by kernel_rfl) (by kernel_rfl) (by kernel_rfl) (fun _ _ _ h => h) (Or.inl ⟨by rfl, ?y8a⟩) hHeld ?r8a
      case y8a => (intro w hSw; (try dsimp only at hSw); go_simp; first | done | with_reducible rfl)
      (try simp only [Act.put, List.setIfInBounds_toArray, List.set_cons_zero, List.set_cons_succ])
      refine wpAnyH_take_at (i := 9) (v := ?v9a) rfl (by kernel_rfl) (by kernel_rfl) (by kernel_rfl) (fun _ _ _ h => h) (Or.inl ⟨by rfl, ?y9a⟩) hHeld ?r9a
      case y9a => (intro w hSw; (try dsimp only at hSw); go_simp; first | done | with_reducible rfl)
      (try simp only [Act.put, List.setIfInBounds_toArray, List.set_cons_zero, List.set_cons_succ])
      refine wpAnyH_take_at (i := 10) (v := ?v10a) rfl (by kernel_rfl) (by kernel_rfl) (by kernel_rfl) (fun _ _ _ h => h) (Or.inl ⟨by rfl, ?y10a⟩) hHeld ?r10a
      case y10a => (intro w hSw; (try dsimp only at hSw); go_simp; first | done | with_reducible rfl)
      (try simp only [Act.put, List.setIfInBounds_toArray, List.set_cons_zero, List.set_cons_succ])
      refine wpAnyH_take_at (i := 12) (v := ?v12a) rfl (by kernel_rfl) (by kernel_rfl) (by kernel_rfl) (fun _ _ _ h => h) (Or.inl ⟨by rfl, ?y12a⟩) hHeld ?r12a
      case y12a => (intro w hSw; (try dsimp only at hSw); go_simp; first | done | with_reducible rfl)
      (try simp only [Act.put, List.setIfInBounds_toArray, List.set_cons_zero, List.set_cons_succ])
      refine wpAnyH_take_at (i := 13) (v := ?v13a) rfl (by kernel_rfl) (by kernel_rfl) (by kernel_rfl) (fun _ _ _ h => h) (Or.inl ⟨by rfl, ?y13a⟩) hHeld ?r13a
      case y13a => (intro w hSw; (try dsimp only at hSw); go_simp; first | done | with_reducible rfl)
      (try simp only [Act.put, List.setIfInBounds_toArray, List.set_cons_zero, List.set_cons_succ])
      refine wpAnyH_take_at (i := 14) (v := ?v14a) rfl (by kernel_rfl) (by kernel_rfl) (by kernel_rfl) (fun _ _ _ h => h) (Or.inl ⟨by rfl, ?y14a⟩) hHeld ?r14a
      case y14a => (intro w hSw; (try dsimp only at hSw); go_simp; first | done | with_reducible rfl)
      (try simp only [Act.put, List.setIfInBounds_toArray, List.set_cons_zero, List.set_cons_succ])
      refine wpAnyH_take_at (i := 15) (v := ?v15a) rfl (by kernel_rfl) (by kernel_rfl) (by kernel_rfl) (fun _ _ _ h => h) (Or.inl ⟨by rfl, ?y15a⟩) hHeld ?r15a
      case y15a => (intro w hSw; (try dsimp only at hSw); go_simp; first | done | with_reducible rfl)
      (try simp only [Act.put, List.setIfInBounds_toArray, List.set_cons_zero, List.set_cons_succ])
      refine wpAnyH_take_at (i := 16) (v := ?v16a) rfl (by kernel_rfl) (by kernel_rfl) (by kernel_rfl) (fun _ _ _ h => h) (Or.inl ⟨by rfl, ?y16a⟩) hHeld ?r16a
      case y16a => (intro w hSw; (try dsimp only at hSw); go_simp; first | done | with_reducible rfl)
      (try simp only [Act.put, List.setIfInBounds_toArray, List.set_cons_zero, List.set_cons_succ])
      refine wpAnyH_take_at (i := 17) (v := ?v17a) rfl (by kernel_rfl) (by kernel_rfl) (by kernel_rfl) (fun _ _ _ h => h) (Or.inl ⟨by rfl, ?y17a⟩) hHeld ?r17a
      case y17a => (intro w hSw; (try dsimp only at hSw); go_simp; first | done | with_reducible rfl)
      (try simp only [Act.put, List.setIfInBounds_toArray, List.set_cons_zero, List.set_cons_succ])
      refine wpAnyH_take_at (i := 18) (v := ?v18a) rfl (by kernel_rfl) (by kernel_rfl) (by kernel_rfl) (fun _ _ _ h => h) (Or.inl ⟨by rfl, ?y18a⟩) hHeld ?r18a
      case y18a => (intro w hSw; (try dsimp only at hSw); go_simp; first | done | with_reducible rfl)
      (try simp only [Act.put, List.setIfInBounds_toArray, List.set_cons_zero, List.set_cons_succ])
      refine wpAnyH_one (i := 11) (by kernel_rfl) rfl (fun KK hK => ?_)
      go_simp
      refine HF4.out.mono ?_
      rintro e w5 ⟨vo, s5, K5, c5, F5, rfl, h5⟩
      go_simp
      have HI5 := Lib.hid (HI4.out.gone hk6 h5.out.1)
      have HU5 := Lib.hid (HU4.out.move h5.out.1.mv)
      have HN5 := Lib.hid (HN3.out.ext h5.out.1.ext HI4.out.ms.fine.wf.ok.good)
      have hvo : ReadsU w5 vo (l.take t) := by
        have q := h5.out.2
        rw [take_same (by rw [HLL.out.1]; omega), HLL.out.1, HLL.out.2.1] at q
        exact q
      have HSM := Lib.hid (ssame_spec hvo (ReadsU.take HU5.out.rd htL) (by rw [List.length_take, HLL.out.1]; omega) rfl)
      clear HF4 HU4 hvo h5 HI4
      refine hK.out _ _ ?s11a (fun hHeld => ?_)
      case s11a => exact HI5.out.r.r i b HBB.out
      clear hK KK
      (try simp only [Act.put, List.setIfInBounds_toArray, List.set_cons_zero, List.set_cons_succ])
      refine wpAnyH_one (i := 19) (by kernel_rfl) rfl (fun KK hK => ?_)
      go_simp
      refine HSM.out.mono ?_
      rintro e w' ⟨rfl, nq, rfl⟩
      go_simp
      have k6 : Keeps (fun _ => False) w5 (w5.drewN nq) := (Keeps.refl _ _).drewN nq
      have HI6 := Lib.hid (HI5.out.quiet k6)
      have HU6 := Lib.hid (HU5.out.move (Mv.quiet (Fp := F5) k6))
      generalize w5.drewN nq = w6 at *
      have HNV : Hid (Calls Try.prog 14 #[.pointer (some ⟨db, 0, none⟩), .int .i64 f] w6 fun e w' => e = .returned (.bool v0) ∧ w6 = w') := by
        have h1 := HI6.out.ms.n
        have hfI := isN_iff.1 HN5.out.is
        have q := never_spec HI6.out.ms.bd (by omega) f (by omega)
        rw [HN5.out.is, Bool.not_true, Bool.or_false, HV0.out] at q
        exact q
      have HAL : Hid (Calls Try.prog 15 #[.pointer (some ⟨db, 0, none⟩), .int .i64 f] w6 fun e w' => e = .returned (.bool v1) ∧ w6 = w') := by
        have q := always_spec w6 (.pointer (some ⟨db, 0, none⟩)) f
        rw [HV1.out] at q
        exact q
      clear HSM HI5 HU5 k6
      refine hK.out _ _ ?s19a (fun hHeld => ?_)
      case s19a => exact HI6.out.r.r i b HBB.out
      clear hK KK
      (try simp only [Act.put, List.setIfInBounds_toArray, List.set_cons_zero, List.set_cons_succ])
      refine wpAnyH_take_at (i := 20) (v := ?v20a) rfl (by kernel_rfl) (by kernel_rfl) (by kernel_rfl) (fun _ _ _ h => h) (Or.inl ⟨by rfl, ?y20a⟩) hHeld ?r20a
      case y20a => (intro w hSw; (try dsimp only at hSw); go_simp; first | done | with_reducible rfl)
      (try simp only [Act.put, List.setIfInBounds_toArray, List.set_cons_zero, List.set_cons_succ])
      refine wpAnyH_take_at (i := 21) (v := ?v21a) rfl (by kernel_rfl) (by kernel_rfl) (by kernel_rfl) (fun _ _ _ h => h) (Or.inl ⟨by rfl, ?y21a⟩) hHeld ?r21a
      case y21a => (intro w hSw; (try dsimp only at hSw); go_simp; first | done | with_reducible rfl)
      (try simp only [Act.put, List.setIfInBounds_toArray, List.set_cons_zero, List.set_cons_succ])
      refine wpAnyH_take_at (i := 22) (v := ?v22a) rfl (by kernel_rfl) (by kernel_rfl) (by kernel_rfl) (fun _ _ _ h => h) (Or.inl ⟨by rfl, ?y22a⟩) hHeld ?r22a
      case y22a => (intro w hSw; (try dsimp only at hSw); go_simp; first | done | with_reducible rfl)
      (try simp only [Act.put, List.setIfInBounds_toArray, List.set_cons_zero, List.set_cons_succ])
      refine wpAnyH_take_at (i := 23) (v := ?v23a) rfl (by kernel_rfl) (by kernel_rfl) (by kernel_rfl) (fun _ _ _ h => h) (Or.inl ⟨by rfl, ?y23a⟩) hHeld ?r23a
      case y23a => (intro w hSw; (try dsimp only at hSw); go_simp; first | done | with_reducible rfl)
      (try simp only [Act.put, List.setIfInBounds_toArray, List.set_cons_zero, List.set_cons_succ])
      refine wpAnyH_take_at (i := 24) (v := ?v24a) rfl (by kernel_rfl) (by kernel_rfl) (by kernel_rfl) (fun _ _ _ h => h) (Or.inl ⟨by rfl, ?y24a⟩) hHeld ?r24a
      case y24a => (intro w hSw; (try dsimp only at hSw); go_simp; first | done | with_reducible rfl)
      (try simp only [Act.put, List.setIfInBounds_toArray, List.set_cons_zero, List.set_cons_succ])
      refine wpAnyH_take_at (i := 26) (v := ?v26a) rfl (by kernel_rfl) (by kernel_rfl) (by kernel_rfl) (fun _ _ _ h => h) (Or.inl ⟨by rfl, ?y26a⟩) hHeld ?r26a
      case y26a => (intro w hSw; (try dsimp only at hSw); go_simp; first | done | with_reducible rfl)
      (try simp only [Act.put, List.setIfInBounds_toArray, List.set_cons_zero, List.set_cons_succ])
      refine wpAnyH_take_at (i := 27) (v := ?v27a) rfl (by kernel_rfl) (by kernel_rfl) (by kernel_rfl) (fun _ _ _ h => h) (Or.inl ⟨by rfl, ?y27a⟩) hHeld ?r27a
      case y27a => (intro w hSw; (try dsimp only at hSw); go_simp; first | done | with_reducible rfl)
      (try simp only [Act.put, List.setIfInBounds_toArray, List.set_cons_zero, List.set_cons_succ])
      refine wpAnyH_take_at (i := 28) (v := ?v28a) rfl (by kernel_rfl) (by kernel_rfl) (by kernel_rfl) (fun _ _ _ h => h) (Or.inl ⟨by rfl, ?y28a⟩) hHeld ?r28a
      case y28a => (intro w hSw; (try dsimp only at hSw); go_simp; first | done | with_reducible rfl)
      (try simp only [Act.put, List.setIfInBounds_toArray, List.set_cons_zero, List.set_cons_succ])
      refine wpAnyH_one (i := 25) (by kernel_rfl) rfl (fun KK hK => ?_)
      go_simp
      refine HNV.out.mono ?_
      rintro e w' ⟨rfl, rfl⟩
      go_simp
      refine hK.out _ _ ?s25a (fun hHeld => ?_)
      case s25a => exact HI6.out.r.r i b HBB.out
      clear hK KK
      (try simp only [Act.put, List.setIfInBounds_toArray, List.set_cons_zero, List.set_cons_succ])
      refine wpAnyH_take_at (i := 29) (v := ?v29a) rfl (by kernel_rfl) (by kernel_rfl) (by kernel_rfl) (fun _ _ _ h => h) (Or.inl ⟨by rfl, ?y29a⟩) hHeld ?r29a
      case y29a => (intro w hSw; (try dsimp only at hSw); go_simp; first | done | with_reducible rfl)
      (try simp only [Act.put, List.setIfInBounds_toArray, List.set_cons_zero, List.set_cons_succ])
      refine wpAnyH_take_at (i := 30) (v := ?v30a) rfl (by kernel_rfl) (by kernel_rfl) (by kernel_rfl) (fun _ _ _ h => h) (Or.inl ⟨by rfl, ?y30a⟩) hHeld ?r30a
      case y30a => (intro w hSw; (try dsimp only at hSw); go_simp; first | done | with_reducible rfl)
      (try simp only [Act.put, List.setIfInBounds_toArray, List.set_cons_zero, List.set_cons_succ])
      refine wpAnyH_take_at (i := 31) (v := ?v31a) rfl (by kernel_rfl) (by kernel_rfl) (by kernel_rfl) (fun _ _ _ h => h) (Or.inl ⟨by rfl, ?y31a⟩) hHeld ?r31a
      case y31a => (intro w hSw; (try dsimp only at hSw); go_simp; first | done | with_reducible rfl)
      (try simp only [Act.put, List.setIfInBounds_toArray, List.set_cons_zero, List.set_cons_succ])
      refine wpAnyH_take_at (i := 32) (v := ?v32a) rfl (by kernel_rfl) (by kernel_rfl) (by kernel_rfl) (fun _ _ _ h => h) (Or.inl ⟨by rfl, ?y32a⟩) hHeld ?r32a
      case y32a => (intro w hSw; (try dsimp only at hSw); go_simp; first | done | with_reducible rfl)
      (try simp only [Act.put, List.setIfInBounds_toArray, List.set_cons_zero, List.set_cons_succ])
      refine wpAnyH_take_at (i := 33) (v := ?v33a) rfl (by kernel_rfl) (by kernel_rfl) (by kernel_rfl) (fun _ _ _ h => h) (Or.inl ⟨by rfl, ?y33a⟩) hHeld ?r33a
      case y33a => (intro w hSw; (try dsimp only at hSw); go_simp; first | done | with_reducible rfl)
      (try simp only [Act.put, List.setIfInBounds_toArray, List.set_cons_zero, List.set_cons_succ])
      refine wpAnyH_take_at (i := 35) (v := ?v35a) rfl (by kernel_rfl) (by kernel_rfl) (by kernel_rfl) (fun _ _ _ h => h) (Or.inl ⟨by rfl, ?y35a⟩) hHeld ?r35a
      case y35a => (intro w hSw; (try dsimp only at hSw); go_simp; first | done | with_reducible rfl)
      (try simp only [Act.put, List.setIfInBounds_toArray, List.set_cons_zero, List.set_cons_succ])
      refine wpAnyH_take_at (i := 36) (v := ?v36a) rfl (by kernel_rfl) (by kernel_rfl) (by kernel_rfl) (fun _ _ _ h => h) (Or.inl ⟨by rfl, ?y36a⟩) hHeld ?r36a
      case y36a => (intro w hSw; (try dsimp only at hSw); go_simp; first | done | with_reducible rfl)
      (try simp only [Act.put, List.setIfInBounds_toArray, List.set_cons_zero, List.set_cons_succ])
      refine wpAnyH_take_at (i := 37) (v := ?v37a) rfl (by kernel_rfl) (by kernel_rfl) (by kernel_rfl) (fun _ _ _ h => h) (Or.inl ⟨by rfl, ?y37a⟩) hHeld ?r37a
      case y37a => (intro w hSw; (try dsimp only at hSw); go_simp; first | done | with_reducible rfl)
      (try simp only [Act.put, List.setIfInBounds_toArray, List.set_cons_zero, List.set_cons_succ])
      refine wpAnyH_take_at (i := 38) (v := ?v38a) rfl (by kernel_rfl) (by kernel_rfl) (by kernel_rfl) (fun _ _ _ h => h) (Or.inl ⟨by rfl, ?y38a⟩) hHeld ?r38a
      case y38a => (intro w hSw; (try dsimp only at hSw); go_simp; first | done | with_reducible rfl)
      (try simp only [Act.put, List.setIfInBounds_toArray, List.set_cons_zero, List.set_cons_succ])
      refine wpAnyH_take_at (i := 39) (v := ?v39a) rfl (by kernel_rfl) (by kernel_rfl) (by kernel_rfl) (fun _ _ _ h => h) (Or.inl ⟨by rfl, ?y39a⟩) hHeld ?r39a
      case y39a => (intro w hSw; (try dsimp only at hSw); go_simp; first | done | with_reducible rfl)
      (try simp only [Act.put, List.setIfInBounds_toArray, List.set_cons_zero, List.set_cons_succ])
      refine wpAnyH_take_at (i := 40) (v := ?v40a) rfl (by kernel_rfl) (by kernel_rfl) (by kernel_rfl) (fun _ _ _ h => h) (Or.inl ⟨by rfl, ?y40a⟩) hHeld ?r40a
      case y40a => (intro w hSw; (try dsimp only at hSw); go_simp; first | done | with_reducible rfl)
      (try simp only [Act.put, List.setIfInBounds_toArray, List.set_cons_zero, List.set_cons_succ])
      refine wpAnyH_take_at (i := 41) (v := ?v41a) rfl (by kernel_rfl) (by kernel_rfl) (by kernel_rfl) (fun _ _ _ h => h) (Or.inl ⟨by rfl, ?y41a⟩) hHeld ?r41a
      case y41a => (intro w hSw; (try dsimp only at hSw); go_simp; first | done | with_reducible rfl)
      (try simp only [Act.put, List.setIfInBounds_toArray, List.set_cons_zero, List.set_cons_succ])
      refine wpAnyH_take_at (i := 42) (v := ?v42a) rfl (by kernel_rfl) (by kernel_rfl) (by kernel_rfl) (fun _ _ _ h => h) (Or.inl ⟨by rfl, ?y42a⟩) hHeld ?r42a
      case y42a => (intro w hSw; (try dsimp only at hSw); go_simp; first | done | with_reducible rfl)
      (try simp only [Act.put, List.setIfInBounds_toArray, List.set_cons_zero, List.set_cons_succ])
      refine wpAnyH_one (i := 34) (by kernel_rfl) rfl (fun KK hK => ?_)
      go_simp
      refine HAL.out.mono ?_
      rintro e w' ⟨rfl, rfl⟩
      go_simp
      refine hK.out _ _ ?s34a (fun hHeld => ?_)
      case s34a => exact HI6.out.r.r i b HBB.out
      clear hK KK
      (try simp only [Act.put, List.setIfInBounds_toArray, List.set_cons_zero, List.set_cons_succ])
      refine wpAnyH_take_at (i := 43) (v := ?v43a) rfl (by kernel_rfl) (by kernel_rfl) (by kernel_rfl) (fun _ _ _ h => h) (Or.inl ⟨by rfl, ?y43a⟩) hHeld ?r43a
      case y43a => (intro w hSw; (try dsimp only at hSw); go_simp; first | done | with_reducible rfl)
      (try simp only [Act.put, List.setIfInBounds_toArray, List.set_cons_zero, List.set_cons_succ])
      refine wpAnyH_take_at (i := 44) (v := ?v44a) rfl (by kernel_rfl) (by kernel_rfl) (by kernel_rfl) (fun _ _ _ h => h) (Or.inl ⟨by rfl, ?y44a⟩) hHeld ?r44a
      case y44a => (intro w hSw; (try dsimp only at hSw); go_simp; first | done | with_reducible rfl)
      (try simp only [Act.put, List.setIfInBounds_toArray, List.set_cons_zero, List.set_cons_succ])
      refine wpAnyH_done (by kernel_rfl) ?_ _
      refine NoPanic.normal ?_
      clear hHeld hS3 HNV HAL
      have HLE : Hid (Calls Try.prog 16 #[.pointer (some ⟨db, 0, none⟩), .int .i64 f] w6 fun e W' => ∃ (a : Nat) (st' : St) (K' : Nat) (c' : Int) (F' : Nat → Prop), e = .returned (.tuple #[.int .u64 (a : Int), .bool (!v0)]) ∧ Hid (GoneR w6 db k 1048576 s5 K5 c5 F5 126 st' K' c' F' W' ∧ (f = 0 → a = 0) ∧ (f ≠ 0 → l[0]? = some a))) := by
        have q := HI6.out.least hk6 (by omega) HN5.out
        rw [HM2.out, HHL.out, HV0.out] at q
        exact q
      go_wp2_with fail
      refine HLE.out.mono ?_
      rintro e w7 ⟨a, s7, K7, c7, F7, rfl, h7⟩
      have HI7 := Lib.hid (HI6.out.gone hk6 h7.out.1)
      have HU7 := Lib.hid (HU6.out.move h7.out.1.mv)
      have HN7 := Lib.hid (HN5.out.ext h7.out.1.ext HI6.out.ms.fine.wf.ok.good)
      have HA := Lib.hid h7.out.2
      have HGR : Hid (Calls Try.prog 17 #[.pointer (some ⟨db, 0, none⟩), .int .i64 f] w7 fun e W' => ∃ (a : Nat) (st' : St) (K' : Nat) (c' : Int) (F' : Nat → Prop), e = .returned (.tuple #[.int .u64 (a : Int), .bool (!v0)]) ∧ Hid (GoneR w7 db k 1048576 s7 K7 c7 F7 36 st' K' c' F' W' ∧ (f = 0 → a = 0) ∧ (f ≠ 0 → l[L - 1]? = some a))) := by
        have q := HI7.out.great hk6 (by omega) HN7.out
        rw [HM2.out, HHL.out, HV0.out, HLL.out.1] at q
        exact q
      clear HLE h7 HI6 HU6 HN5
      go_wp2_with fail
      refine HGR.out.mono ?_
      rintro e w8 ⟨a2, s8, K8, c8, F8, rfl, h8⟩
      have HU8 := Lib.hid (HU7.out.move h8.out.1.mv)
      have HA2 := Lib.hid h8.out.2
      have HN : Hid (∃ st kc calls F, SatSt w w8 k s ((i + 1) * 288) db lb rb m bs st kc calls F) := ⟨_, _, _, _, (HI7.out.gone hk6 h8.out.1).wider (by omega)⟩
      clear HGR h8 HI7 HU7 HN7
      cases v0 with
      | true =>
        have hf0 : f = 0 := of_decide_eq_true HV0.out
        have hL0 : L = 0 := HOL.out.1.1 hf0
        have ha0 := HA.out.1 hf0
        have ha2 := HA2.out.1 hf0
        subst hf0 hL0 ha0 ha2
        clear HA HA2 HU8 hb0 hb1 HV0 HV1 HOL HLL HHL hmn hmx
        go_wp2_with fail
        go_roundg (j + 2 - (i + 1))
        case measure => omega
        case rel => exact ⟨i + 1, by omega, rfl, by go_num, HN⟩
      | false =>
        have hf0 : f ≠ 0 := of_decide_eq_false HV0.out
        have hLp : 0 < L := by
          rcases Nat.eq_zero_or_pos L with h | h
          · exact absurd (HOL.out.1.2 h) hf0
          · exact h
        obtain ⟨q, rfl⟩ : ∃ q, L = q + 1 := ⟨L - 1, by omega⟩
        have h0 := HA.out.2 hf0
        have h1 := HA2.out.2 hf0
        rw [Nat.add_sub_cancel] at h1
        obtain ⟨la2, cl2, hv8, hle8, hrd8⟩ := HU8.out.rd
        simp only [Value.slice.injEq] at hv8
        obtain ⟨rfl, hq1, rfl⟩ := hv8
        obtain ⟨gb, off, rfl, hgl, hcc⟩ := hrd8 (by omega)
        have cc0 := hcc 0 a h0
        have cc1 := hcc q a2 h1
        rw [Nat.add_zero] at cc0
        have hcl : q + 1 ≤ cl := by omega
        have hcl0 : 0 < q + 1 := by omega
        have hq0 : (0 : Int) ≤ (q : Int) := by omega
        have hwq : IntKind.i64.wrap ((q : Int) + 1 - 1) = (q : Int) := by rw [IntWalk.i64_in _ (by omega)]; omega
        have hwq2 : IntKind.i64.wrap (q : Int) = (q : Int) := IntWalk.i64_in _ (by omega)
        have hqp : (0 : Int) < (q : Int) + 1 := by omega
        have hqq : (q : Int) < (q : Int) + 1 := by omega
        clear HA HA2 HU8 hb0 hb1 HV0 HV1 HOL HLL HHL hmn hmx h0 h1 hrd8 hcc hq1 hle8 hle
        go_wp2_with fail
        go_roundg (j + 2 - (i + 1))
        case measure => omega
        case rel => exact ⟨i + 1, by omega, rfl, by go_num, HN⟩
    · have hiI : ¬ (i : Int) < (j : Int) + 2 := by omega
      have HM3 : Hid (Below w.heap.size w wr) := hI.ms.below
      clear hI
      go_wp2_with fail
      refine (HL.out _).mono ?_
      rintro e w4 ⟨rfl, hb⟩
      go_wp2_with fail
      go_ret
      exact ⟨rfl, HM3.out.trans (hb.mono HM3.out.size)⟩
theorem satTells_walk (w : World) (x : Int) (hx0 : 0 ≤ x) (hx1 : x ≤ 18446744073709551615) (ao : Option Addr) (n cap : Nat) (G : Nat → Nat → Value) (R : IsRow w [.int .u64, .int .u64, .int .u64, .int .u64] ao n cap G) (z : Int) (hz0 : -9223372036854775808 ≤ z) (hz1 : z ≤ 9223372036854775807) :
    Calls Try.prog 3 #[.int .u64 x, .slice ao n cap, .int .i64 z] w fun e w' => e = .returned (.bool true) ∧ Below w.heap.size w w' := by
  obtain ⟨X, rfl⟩ := Int.eq_ofNat_of_zero_le hx0
  obtain ⟨os, hos, hO⟩ := R.ops
  exact satTells_core w X (by omega) ao n cap os hos hO R.le z
end Go.Proofs.Ytfakjhcpaiaekaa
