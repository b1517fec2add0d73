/-
  The walk of the law CubesCover.
-/
import Derived.Test.YtloidoekmicloaaCubeState
import Derived.Test.YtloidoekmicloaaItePlayRun
import Derived.Test.YtloidoekmicloaaMI
set_option linter.unusedVariables false
set_option linter.unusedSimpArgs false
set_option linter.unnecessarySimpa false
namespace Go.Proofs.Ytloidoekmicloaa
open Go.ChangeShapes Go.WideShapes Go.ChangeAt Go.RowKit Go.Deep NodePlain
theorem tN6 {k : Nat} (h : k ≤ 6) : tN k ≤ 11000 ∧ tC k ≤ 4400 ∧ uN k ≤ 1008 ∧ uC k ≤ 72 := by
  match k, h with
  | 0, _ => decide
  | 1, _ => decide
  | 2, _ => decide
  | 3, _ => decide
  | 4, _ => decide
  | 5, _ => decide
  | 6, _ => decide
section
variable {w W : World} {k : Nat} {s : PlS} {u c d lb rb m : Nat} {bs : List Nat} {st : St} {kc : Nat} {calls : Int} {F : Nat → Prop}
theorem CuS.cover (h : CuS w W k s u c d lb rb m bs st kc calls F) (hk6 : k ≤ 6) (hu : u ≤ 900000) (hc : c ≤ 70000) {f : Int} {S g : (Nat → Bool) → Bool} (hN : Num st f S) {L : List (List Int)} {n a : Nat} (hbt : Bt k S S L g n a) (hn : n ≤ 11000) (ha : a ≤ 4400) :
    Calls Try.prog 9 #[.pointer (some ⟨d, 0, none⟩), .int .i64 f] W fun e W' => ∃ ao cap bs' st' kc' calls' F', e = .returned (.tuple #[.slice ao L.length cap, .bool true]) ∧
      Hid (CuS w W' k s (u + n) (c + a) d lb rb m bs st' kc' calls' F' ∧ Cb W.heap.size W' F' k (.slice ao L.length cap) L bs' ∧ Mv W W' F F') := by
  have hp : 2 ^ k ≤ 64 := Nat.le_trans (Nat.pow_le_pow_right (by omega) hk6) (by decide)
  have h1 := h.n
  have h2 := h.kc
  refine (ccover_spec hbt hk6 h.dg h.kp.size hN (by omega) (by omega)).mono ?_
  rintro e W' ⟨ao, cap, bs', st', kc', calls', F', rfl, q⟩
  exact ⟨ao, cap, bs', st', kc', calls', F', rfl, h.to q.out.1, q.out.2, q.out.1.mv⟩
theorem CuS.dia (h : CuS w W k s u c d lb rb m bs st kc calls F) (hk6 : k ≤ 6) (hu : u ≤ 900000) (hc : c ≤ 70000) {v : Value} {b : List Int} (hr : RdF W F v b) (hb : CubeR k b) :
    Calls Try.prog 13 #[.pointer (some ⟨d, 0, none⟩), v] W fun e W' => ∃ r st' kc' calls' F', e = .returned (.tuple #[.int .i64 r, .bool true]) ∧
      Hid (CuS w W' k s (u + 1158) (c + 24) d lb rb m bs st' kc' calls' F' ∧ Num st' r (fun β => isB β 0 b) ∧ Mv W W' F F') := by
  have h1 := h.n
  have h2 := h.kc
  refine (cdiagram_spec hk6 h.dg h.kp.size hr hb (by omega) (by omega)).mono ?_
  rintro e W' ⟨r, st', kc', calls', F', rfl, q⟩
  exact ⟨r, st', kc', calls', F', rfl, (h.to q.out.1).more (by omega) (by omega), q.out.2, q.out.1.mv⟩
/-- One cube of a cover: its diagram's cover is itself. -/
theorem CuS.one (h : CuS w W k s u c d lb rb m bs st kc calls F) (hk6 : k ≤ 6) (hu : u ≤ 900000) (hc : c ≤ 70000) {r : Int} {b : List Int} (hN : Num st r (fun β => isB β 0 b)) (hb : CubeR k b) :
    Calls Try.prog 9 #[.pointer (some ⟨d, 0, none⟩), .int .i64 r] W fun e W' => ∃ (g cap b' : Nat) (st' : St) (kc' : Nat) (calls' : Int) (F' : Nat → Prop), e = .returned (.tuple #[.slice (some ⟨g, 0, none⟩) 1 cap, .bool true]) ∧ 1 ≤ cap ∧ W'.cell? ⟨g, 0, none⟩ = some (.slice (some ⟨b', 0, none⟩) k k) ∧
      Hid (CuS w W' k s (u + 1008) (c + 72) d lb rb m bs st' kc' calls' F' ∧ ReadsI W' (.slice (some ⟨b', 0, none⟩) k k) b ∧ Mv W W' F F') := by
  obtain ⟨f, n, cc, hbt, h3, h4⟩ := cube_bt k k b hb (fun w hw => absurd hw (by omega))
  have h5 := tN6 hk6
  refine (h.cover hk6 hu hc hN hbt (by omega) (by omega)).mono ?_
  rintro e W' ⟨ao, cap, bs', st', kc', calls', F', rfl, q⟩
  obtain ⟨ao', cap', e2, hcap, _, hf⟩ := q.out.2.1.1.form
  obtain ⟨g, rfl, _, _, _, hcell⟩ := hf (by simp)
  simp only [Value.slice.injEq] at e2
  obtain ⟨rfl, _, rfl⟩ := e2
  have hl := q.out.2.1.1.len
  obtain ⟨b', hb'⟩ : ∃ b', bs'[0]? = some b' := ⟨_, List.getElem?_eq_getElem (by rw [hl]; simp)⟩
  exact ⟨g, cap, b', st', kc', calls', F', rfl, by simpa using hcap, hcell 0 b' hb', q.out.1.more (by omega) (by omega), (q.out.2.1.1.blk 0 b' b hb' rfl).reads hb.1, q.out.2.2⟩
end
/-- One cube of a row of cubes. -/
theorem Cb.cell {z : Nat} {W : World} {F : Nat → Prop} {k : Nat} {la : Option Addr} {N cap : Nat} {L : List (List Int)} {bs : List Nat} (h : Cb z W F k (.slice la N cap) L bs) {q : Nat} {c : List Int} (hq : L[q]? = some c) :
    ∃ lg gq, la = some ⟨lg, 0, none⟩ ∧ q < cap ∧ W.cell? ⟨lg, q, none⟩ = some (.slice (some ⟨gq, 0, none⟩) k k) ∧ CubeBlk W gq c ∧ ¬ F gq ∧ c.length = k := by
  obtain ⟨ao', cap', e2, hcap, _, hf⟩ := h.1.form
  have hql := (List.getElem?_eq_some_iff.1 hq).1
  obtain ⟨g, rfl, _, _, _, hcell⟩ := hf (by omega)
  simp only [Value.slice.injEq] at e2
  obtain ⟨rfl, _, rfl⟩ := e2
  have hl := h.1.len
  obtain ⟨b', hb'⟩ : ∃ b', bs[q]? = some b' := ⟨_, List.getElem?_eq_getElem (by omega)⟩
  exact ⟨g, b', rfl, by omega, hcell q b' hb', h.1.blk q b' c hb' hq, h.2 b' (.inr (List.mem_of_getElem? hb')), h.1.ck c (List.mem_of_getElem? hq)⟩
set_option maxRecDepth 100000 in
set_option maxHeartbeats 6400000 in
theorem cubesCover_core (w : World) (X : Nat) (hX : X < 18446744073709551616) (ao : Option Addr) (n cap : Nat) (os : List OpR) (hos : os.length = n) (hO : OpRow w ao os) (hcap : n ≤ cap) :
    Calls Try.prog 3 #[.int .u64 X, .slice ao n cap] w fun e w' => e = .returned (.bool true) ∧ Below w.heap.size w w' := by
  obtain ⟨k, hk⟩ : ∃ k, X % 7 = k := ⟨_, rfl⟩
  have hk6 : k ≤ 6 := by omega
  obtain ⟨m, hm⟩ : ∃ m, 2 ^ k = m := ⟨_, rfl⟩
  have HM : Hid (Calls Try.prog 6 #[.int .u64 X] w fun e W' => e = .returned (.int .i64 (k : Int)) ∧ w = W') := by
    have e := many_spec w X hX
    rw [hk] at e
    exact e
  have HN1 : Hid (Calls Try.prog 7 #[.int .i64 (k : Int), .int .i64 1048576] w fun e W' => ∃ db Fp, e = .returned (.pointer (some ⟨db, 0, none⟩)) ∧ Hid (Bd W' db k 1048576 st0 0 Fp ∧ Keeps (fun _ => False) w W' ∧ ∀ x, Fp x → w.heap.size ≤ x)) := bnew_spec w k 1048576 k 1048576 (by omega) (by omega) rfl ⟨by omega, rfl⟩
  have HP : Hid (∀ (W : World) (db : Nat) (B : Int) (Fp : Nat → Prop), Bd W db k B st0 0 Fp → OpRow W ao os → (0 < os.length → ∀ b off, ao = some ⟨b, off, none⟩ → ¬ Fp b) → Calls Try.prog 8 #[.pointer (some ⟨db, 0, none⟩), .int .i64 (k : Int), .slice ao n cap] W (PlayPost k B k m os db Fp W (playM k B k os))) := fun W db B Fp h ho hf => play_spec k hk6 rfl _ hm h ho hos hcap hf
  have HO := Lib.hid hO
  have HB : Hid (0 < os.length → ∀ b off, ao = some ⟨b, off, none⟩ → b < w.heap.size) := fun h0 b off e => by
    obtain ⟨b', off', e', hlt, _⟩ := hO h0
    rw [e'] at e
    simp only [Option.some.injEq, Addr.mk.injEq, and_true] at e
    omega
  have HF := Lib.hid (tells_facts k hk6 m hm os)
  have HL := Lib.hid lives38_any
  have HMS : Hid (∀ {w1 w2 : World} {db : Nat} {Fd Fd' : Nat → Prop} {lv rv : Value} {bs : List Nat} {s : PlS}, playM k 1048576 k os = s → (Bd w1 db k 1048576 st0 0 Fd ∧ Keeps (fun _ => False) w w1 ∧ ∀ x, Fd x → w.heap.size ≤ x) → (Pl w1.heap.size w2 db k 1048576 m s.st s.calls Fd' s.l lv s.Rs rv bs ∧ Mv w1 w2 Fd Fd') → 0 < s.l.length → s.st.n ≤ 23040 → s.calls ≤ 90 →
      ∃ lb lc rb rc, lv = .slice (some ⟨lb, 0, none⟩) s.l.length lc ∧ s.l.length ≤ lc ∧ rv = .slice (some ⟨rb, 0, none⟩) s.l.length rc ∧ s.l.length ≤ rc ∧ bs.length = s.l.length ∧ ∃ F, CuS w w2 k s 0 0 db lb rb m bs s.st 90 s.calls F) := fun hs hd pd h0 hn hc => cus_of hk6 hs hd pd h0 hn hc
  have hm64 : m ≤ 64 := by rw [← hm]; exact Nat.le_trans (Nat.pow_le_pow_right (by omega) hk6) (by decide)
  have HM2 := Lib.hid hm
  clear hO hX hk hm
  go_enter Try.func3, Try.ntmps3
  go_wp2_with fail
  refine HM.out.mono ?_
  rintro e w' ⟨rfl, rfl⟩
  clear HM
  go_wp2_with fail
  refine HN1.out.mono ?_
  rintro e w1 ⟨db, Fd, rfl, hd⟩
  clear HN1
  have HO1 : Hid (OpRow w1 ao os) := HO.out.keeps hd.out.2.1 (fun _ _ _ x => x)
  have HF1 : Hid (0 < os.length → ∀ b off, ao = some ⟨b, off, none⟩ → ¬ Fd b) := fun h0 b off e hf => by
    have h1 := HB.out h0 b off e
    have := hd.out.2.2 b hf
    omega
  clear HO HB
  go_wp2_with fail
  refine (HP.out w1 db 1048576 Fd hd.out.1 HO1.out HF1.out).mono ?_
  rintro e w2 ⟨lv, rv, bs, Fd', rfl, hpd⟩
  clear HO1 HF1 HP
  obtain ⟨s, hs⟩ : ∃ s, playM k 1048576 k os = s := ⟨_, rfl⟩
  rw [hs] at HF hpd ⊢
  generalize (os.take 30).length = j at HF
  have hj := HF.out.le
  have f1 := HF.out.len
  obtain ⟨lb, lc, rb, rc, rfl, hlc, rfl, hrc, hbl, F0, hS⟩ := HMS.out hs hd.out hpd.out (by omega) HF.out.n HF.out.calls
  have HGS : Hid (NodePlain.Good (k : Int) s.st.L s.st.n) := hS.dg.good
  have HS : Hid (CuS w w2 k s 0 0 db lb rb m bs s.st 90 s.calls F0) := hS
  clear hd hpd hS HMS hs
  rw [f1] at hlc hrc hbl ⊢
  clear f1
  obtain ⟨i0, hi0⟩ : ∃ i0, j + 2 - 4 = i0 := ⟨_, rfl⟩
  have hmax : max (0 : Int) ((j : Int) + 2 - 4) = (i0 : Int) := by omega
  go_wp2_with fail
  go_loopg [10] (j + 2 - i0) (fun gg t wx => ∃ (i : Nat) (st : St) (kc : Nat) (calls : Int) (F : Nat → Prop), i0 ≤ i ∧ i ≤ j + 2 ∧ gg = j + 2 - i ∧ t = .int .i64 i ∧ Hid (CuS w wx k s ((i - i0) * 160000) ((i - i0) * 11000) db lb rb m bs st kc calls F))
  case atStart => exact ⟨i0, s.st, 90, s.calls, F0, Nat.le_refl _, by omega, rfl, by first | rfl | rw [hmax], by rw [Nat.sub_self]; exact HS⟩
  case round =>
    clear HS hmax
    obtain ⟨i, st, kc, calls, F, hi1, hi, rfl, rfl, HI⟩ := hrel
    by_cases hlt : i < j + 2
    · have hiI : (i : Int) < (j : Int) + 2 := by omega
      have hwi : IntKind.i64.wrap ((i : Int) + 1) = (i : Int) + 1 := IntWalk.i64_in _ (by omega)
      have hlc' : i < lc := by omega
      have hrc' : i < rc := by omega
      have hlj : i < j + 2 := hlt
      have hu1 : (i - i0) * 160000 ≤ 480000 := by omega
      have hcc1 : (i - i0) * 11000 ≤ 33000 := by omega
      obtain ⟨f, hx⟩ : ∃ x, s.l[i]? = some x := ⟨_, List.getElem?_eq_getElem (by have := HF.out.len; omega)⟩
      obtain ⟨R, hR⟩ : ∃ R, s.Rs[i]? = some R := ⟨_, List.getElem?_eq_getElem (by have := HF.out.lenR; omega)⟩
      obtain ⟨b, hb⟩ : ∃ b, bs[i]? = some b := ⟨_, List.getElem?_eq_getElem (by omega)⟩
      have hxs := HF.out.is i f hx
      have hc1 := HI.out.l i f hx
      have hsem : ∀ X, (fun β => ev s.st.L β f) (βN X) = R X := HF.out.sem i f R hx hR
      have hNs : Num s.st f (fun β => ev s.st.L β f) := ⟨hxs, fun β => rfl⟩
      have HNs := Lib.hid hNs
      obtain ⟨L, g, nn, aa, hbt, hnn, haa⟩ := bt_all (few_ev HGS.out hxs) (few_ev HGS.out hxs) (fun β h => h)
      have h6 := tN6 hk6
      have IS := Lib.hid (hbt.isop (fun _ h => h))
      have HSE := Lib.hid hsem
      have HRB := Lib.hid (And.intro hR hb)
      have HCV := Lib.hid (HI.out.cover hk6 (by omega) (by omega) (HNs.out.ext HI.out.ext HGS.out) hbt (by omega) (by omega))
      have HLEN : Hid (L.length ≤ 2 ^ k) := IS.out.len
      obtain ⟨U, hU⟩ : ∃ U, (i - i0) * 160000 + nn = U := ⟨_, rfl⟩
      obtain ⟨C, hC⟩ : ∃ C, (i - i0) * 11000 + aa = C := ⟨_, rfl⟩
      rw [hU, hC] at HCV
      have HU : Hid (U ≤ (i - i0) * 160000 + 11000 ∧ U ≤ 500000 ∧ C ≤ (i - i0) * 11000 + 4400 ∧ C ≤ 40000) := by refine ⟨?_, ?_, ?_, ?_⟩ <;> omega
      clear hx hR hxs hb hsem hNs HNs hbt hnn haa h6 hU hC
      go_wp2_with fail
      refine HCV.out.mono ?_
      rintro e w3 ⟨la, lcap, cs, st3, kc3, calls3, F3, rfl, h3⟩
      have HI3 := Lib.hid h3.out.1
      have HC3 : Hid (Cb 0 w3 F3 k (.slice la L.length lcap) L cs) := ⟨h3.out.2.1.1.mono (Nat.zero_le _), h3.out.2.1.2⟩
      clear HCV h3 hc1 HI
      obtain ⟨N, hN⟩ : ∃ N, L.length = N := ⟨_, rfl⟩
      have HNL := Lib.hid hN
      rw [hN] at HC3 HLEN ⊢
      have hN64 : N ≤ 64 := by have := HLEN.out; have := HM2.out; omega
      clear hN
      have c2 := HI3.out.r i b HRB.out.2
      have HROW := Lib.hid (HI3.out.row i b R HRB.out.2 HRB.out.1).1
      have HCVR := Lib.hid (covers_spec HC3.out.1.reads (by have := HNL.out; omega) (fun c hc => by rw [(IS.out.cube c hc).1]; omega) HROW.out hm64 (-1))
      rw [cov_all IS.out HSE.out] at HCVR
      clear HROW
      go_wp2_with (go_at_call 10; refine HCVR.out.mono ?_; rintro e wA ⟨rfl, rfl⟩)
      clear HCVR c2
      go_loopg [69] N (fun gg t wx => ∃ q : Nat, q ≤ N ∧ gg = N - q ∧ t = .int .i64 q ∧ Hid (Keeps (fun _ => False) w3 wx))
      case atStart => exact ⟨0, Nat.zero_le _, rfl, rfl, Keeps.refl _ _⟩
      case round =>
        obtain ⟨q, hq, rfl, rfl, HK⟩ := hrel
        by_cases hlt2 : q < N
        · have hqI : (q : Int) < (N : Int) := by omega
          have hwq : IntKind.i64.wrap ((q : Int) + 1) = (q : Int) + 1 := IntWalk.i64_in _ (by omega)
          obtain ⟨cb, hcx⟩ : ∃ x, L[q]? = some x := ⟨_, List.getElem?_eq_getElem (by have := HNL.out; omega)⟩
          have HCW := Lib.hid (HC3.out.quiet HK.out)
          have HIW := Lib.hid (HI3.out.quiet HK.out)
          obtain ⟨lg, gq, rfl, hqc, c0, hblk, _, hckl⟩ := HCW.out.cell hcx
          have hmem := List.mem_of_getElem? hcx
          have c2 := HIW.out.r i b HRB.out.2
          have hrow := (HIW.out.row i b R HRB.out.2 HRB.out.1).1
          have HRT := Lib.hid (lright38_spec (vars := (k : Int)) (by omega) (by omega) (hblk.reads hckl))
          rw [cov_right IS.out hk6 hmem] at HRT
          have HCB := Lib.hid (covers_spec HCW.out.1.reads (by have := HNL.out; omega) (fun c hc => by rw [(IS.out.cube c hc).1]; omega) hrow hm64 (q : Int))
          rw [cov_but IS.out HSE.out HM2.out (by have := HNL.out; omega)] at HCB
          have HPR := Lib.hid (prime_spec hblk hckl hk6 hrow hm64 (fun v x hx hx0 => cov_prime IS.out HSE.out HM2.out hmem v x hx hx0))
          clear hcx hblk hckl hmem hrow HCW HIW
          go_wp2_with (first | (go_at_call 11; refine HRT.out.mono ?_; rintro e wA ⟨rfl, rfl⟩) | (go_at_call 10; refine HCB.out.mono ?_; rintro e wA ⟨rfl, rfl⟩) | (go_at_call 12; refine HPR.out.mono ?_; rintro e wA ⟨rfl, hA⟩))
          have HKN : Hid (Keeps (fun _ => False) w3 wA) := HK.out.trans hA.out
          clear HK hA HRT HCB HPR c0 c2
          go_roundg (N - (q + 1))
          case measure => omega
          case rel => exact ⟨q + 1, by omega, rfl, by go_num, HKN⟩
        · have hqN : q = N := by omega
          have hqI : ¬ (q : Int) < (N : Int) := by omega
          have HI4 := Lib.hid (HI3.out.quiet HK.out)
          have HC4 := Lib.hid (HC3.out.quiet HK.out)
          clear hqN HK HI3 HC3
          go_wp2_with fail
          go_loopg [99] N (fun gg t wx => ∃ (q : Nat) (st : St) (kc : Nat) (calls : Int) (F : Nat → Prop), q ≤ N ∧ gg = N - q ∧ t = .int .i64 q ∧ Hid (CuS w wx k s (U + q * 2200) (C + q * 100) db lb rb m bs st kc calls F ∧ Cb 0 wx F k (.slice la N lcap) L cs))
          case atStart => exact ⟨0, _, _, _, _, Nat.zero_le _, rfl, rfl, HI4.out, HC4.out⟩
          case round =>
            clear HI4 HC4
            obtain ⟨q, st5, kc5, calls5, F5, hq, rfl, rfl, HH⟩ := hrel
            by_cases hlt3 : q < N
            · have hqI : (q : Int) < (N : Int) := by omega
              have hwq : IntKind.i64.wrap ((q : Int) + 1) = (q : Int) + 1 := IntWalk.i64_in _ (by omega)
              obtain ⟨cb, hcx⟩ : ∃ x, L[q]? = some x := ⟨_, List.getElem?_eq_getElem (by have := HNL.out; omega)⟩
              obtain ⟨lg, gq, rfl, hqc, c0, hblk, hnf, hckl⟩ := HH.out.2.cell hcx
              have hCR := IS.out.cube cb (List.mem_of_getElem? hcx)
              have hRd := RdF.blk hblk hckl hnf
              have hu5 := HU.out
              have HD := Lib.hid (HH.out.1.dia hk6 (by omega) (by omega) hRd hCR)
              have HRd := Lib.hid hRd
              have HCR := Lib.hid hCR
              clear hcx hblk hckl hnf hCR hRd hu5
              go_wp2_with fail
              refine HD.out.mono ?_
              rintro e w6 ⟨r6, st6, kc6, calls6, F6, rfl, h6⟩
              have hu5 := HU.out
              have HO := Lib.hid (h6.out.1.one hk6 (by omega) (by omega) h6.out.2.1 HCR.out)
              have HC6 := Lib.hid (HH.out.2.mv h6.out.2.2)
              have HRd6 := Lib.hid (HRd.out.mv h6.out.2.2)
              clear HD HH h6 HRd hu5 c0
              go_wp2_with fail
              refine HO.out.mono ?_
              rintro e w7 ⟨g7, cap7, b7, st7, kc7, calls7, F7, rfl, hcap7, d0, h7⟩
              have HI7 := Lib.hid h7.out.1
              have HC7 := Lib.hid (HC6.out.mv h7.out.2.2)
              have HSA := Lib.hid (csame_spec h7.out.2.1 (HRd6.out.mv h7.out.2.2).reads (by rw [HCR.out.1]; omega) (by rw [HCR.out.1]; omega) rfl)
              have hcap0 : 0 < cap7 := by omega
              clear HO HC6 HRd6 h7 HCR
              go_wp2_with (go_at_call 14; refine HSA.out.mono ?_; rintro e wA ⟨rfl, nq, rfl⟩)
              have hk8 : Keeps (fun _ => False) w7 (w7.drewN nq) := (Keeps.refl _ _).drewN nq
              have HN : Hid (CuS w (w7.drewN nq) k s (U + (q + 1) * 2200) (C + (q + 1) * 100) db lb rb m bs st7 kc7 calls7 F7 ∧ Cb 0 (w7.drewN nq) F7 k (.slice (some ⟨lg, 0, none⟩) N lcap) L cs) := ⟨(HI7.out.more (by omega) (by omega)).quiet hk8, HC7.out.quiet hk8⟩
              clear HI7 HC7 HSA hk8 d0
              go_roundg (N - (q + 1))
              case measure => omega
              case rel => exact ⟨q + 1, st7, kc7, calls7, F7, by omega, rfl, by go_num, HN⟩
            · have hqN : q = N := by omega
              have hqI : ¬ (q : Int) < (N : Int) := by omega
              have HN : Hid (CuS w wr k s ((i + 1 - i0) * 160000) ((i + 1 - i0) * 11000) db lb rb m bs st5 kc5 calls5 F5) := by
                have hu5 := HU.out
                exact HH.out.1.more (by omega) (by omega)
              clear HH hqN
              go_wp2_with fail
              go_roundg (j + 2 - (i + 1))
              case measure => omega
              case rel => exact ⟨i + 1, st5, kc5, calls5, F5, by omega, by omega, rfl, by go_num, HN⟩
    · have hie : i = j + 2 := by omega
      have hiI : ¬ (i : Int) < (j : Int) + 2 := by omega
      have hn8 : st.n ≤ 100000000 := by have := HI.out.n; omega
      have HNO := Lib.hid (ccover_no HI.out.dg.bd hn8 (f := -1) (by omega) (by unfold isN; rfl))
      have HLI := Lib.hid (HL.out wr)
      have HBW := Lib.hid HI.out.below
      clear HI HL
      go_wp2_with fail
      refine HNO.out.mono ?_
      rintro e w3 ⟨rfl, rfl⟩
      clear HNO
      go_wp2_with (go_at_call 15; refine HLI.out.mono ?_; rintro e wA ⟨rfl, hA⟩)
      have HP : Hid (Below w.heap.size w wA) := HBW.out.trans (hA.mono HBW.out.size)
      clear HLI HBW hA
      go_ret
      exact ⟨rfl, HP⟩
theorem cubesCover_walk (w : World) (x : Int) (hx0 : 0 ≤ x) (hx1 : x ≤ 18446744073709551615) (ao : Option Addr) (n cap : Nat) (G : Nat → Nat → Value) (R : IsRow w [.int .u64, .int .u64, .int .u64, .int .u64] ao n cap G) :
    Calls Try.prog 3 #[.int .u64 x, .slice ao n cap] w fun e w' => e = .returned (.bool true) ∧ Below w.heap.size w w' := by
  obtain ⟨X, rfl⟩ := Int.eq_ofNat_of_zero_le hx0
  obtain ⟨os, hos, hO⟩ := R.ops
  exact cubesCover_core w X (by omega) ao n cap os hos hO R.le
end Go.Proofs.Ytloidoekmicloaa
