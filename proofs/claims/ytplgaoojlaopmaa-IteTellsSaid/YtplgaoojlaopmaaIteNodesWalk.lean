/-
  The walk of the law IteNodes.
-/
import Derived.Test.YtplgaoojlaopmaaItePlayRun
import Derived.Test.YtplgaoojlaopmaaItePlayLaws
import Derived.Test.YtplgaoojlaopmaaIteLives
import Derived.Deep.RegionWith
import Derived.Deep.RegionHeld3
set_option linter.unusedVariables false
set_option linter.unusedSimpArgs false
namespace Go.Proofs.Ytplgaoojlaopmaa
open Go.ChangeShapes Go.WideShapes Go.ChangeAt Go.RowKit Go.Deep NodePlain
theorem IsRow.ops {w : World} {ao : Option Addr} {n cap : Nat} {G : Nat → Nat → Value} (R : IsRow w [.int .u64, .int .u64, .int .u64, .int .u64] ao n cap G) : ∃ os : List OpR, os.length = n ∧ OpRow w ao os := by
  have key : ∀ i, i < n → ∃ p : OpR, (G i 0 = .int .u64 p.kind ∧ G i 1 = .int .u64 p.a ∧ G i 2 = .int .u64 p.b ∧ G i 3 = .int .u64 p.c) ∧ p.kind < 18446744073709551616 ∧ p.a < 18446744073709551616 ∧ p.b < 18446744073709551616 ∧ p.c < 18446744073709551616 := fun i hi => by
    obtain ⟨z0, h0, w0⟩ := R.ok i 0 _ hi rfl
    obtain ⟨z1, h1, w1⟩ := R.ok i 1 _ hi rfl
    obtain ⟨z2, h2, w2⟩ := R.ok i 2 _ hi rfl
    obtain ⟨z3, h3, w3⟩ := R.ok i 3 _ hi rfl
    have b0 := bounds_u64 w0
    have b1 := bounds_u64 w1
    have b2 := bounds_u64 w2
    have b3 := bounds_u64 w3
    refine ⟨⟨z0.toNat, z1.toNat, z2.toNat, z3.toNat⟩, ⟨?_, ?_, ?_, ?_⟩, ?_, ?_, ?_, ?_⟩
    · rw [h0]; show Value.int .u64 z0 = .int .u64 (z0.toNat : Int); rw [Int.toNat_of_nonneg b0.1]
    · rw [h1]; show Value.int .u64 z1 = .int .u64 (z1.toNat : Int); rw [Int.toNat_of_nonneg b1.1]
    · rw [h2]; show Value.int .u64 z2 = .int .u64 (z2.toNat : Int); rw [Int.toNat_of_nonneg b2.1]
    · rw [h3]; show Value.int .u64 z3 = .int .u64 (z3.toNat : Int); rw [Int.toNat_of_nonneg b3.1]
    · show z0.toNat < _; omega
    · show z1.toNat < _; omega
    · show z2.toNat < _; omega
    · show z3.toNat < _; omega
  haveI : Inhabited OpR := ⟨⟨0, 0, 0, 0⟩⟩
  obtain ⟨f, hf⟩ := choose_lt key
  refine ⟨(List.range n).map f, by simp, fun h0 => ?_⟩
  have hn : 0 < n := by simpa using h0
  obtain ⟨b, off, h1, h2, h3⟩ := R.at_ hn
  refine ⟨b, off, h1, h2, fun i r hr => ?_⟩
  rw [List.getElem?_map] at hr
  have hi : i < n := by
    rcases Nat.lt_or_ge i n with h | h
    · exact h
    · rw [List.getElem?_eq_none (by simpa using h)] at hr; cases hr
  rw [List.getElem?_range hi] at hr
  simp only [Option.map_some, Option.some.injEq] at hr
  subst hr
  obtain ⟨⟨g0, g1, g2, g3⟩, q⟩ := hf i hi
  refine ⟨q, ?_⟩
  rw [← g0, ← g1, ← g2, ← g3]
  exact ⟨h3 i 0 hi (by decide), h3 i 1 hi (by decide), h3 i 2 hi (by decide), h3 i 3 hi (by decide)⟩
/-- Both diagrams' makers behind both plays. -/
structure Both (z W : World) (V B B' : Int) (s t : PlS) (d e lb eb : Nat) : Prop where
  d : ∃ F, Bd W d V B s.st s.calls F
  e : ∃ F, Bd W e V B' t.st t.calls F
  dl : ∀ (i : Nat) (x : Int), s.l[i]? = some x → W.cell? ⟨lb, i, none⟩ = some (.int .i64 x)
  el : ∀ (i : Nat) (x : Int), t.l[i]? = some x → W.cell? ⟨eb, i, none⟩ = some (.int .i64 x)
  below : Below z.heap.size z W
  lt : lb < W.heap.size ∧ eb < W.heap.size
section
variable {z W W' : World} {V B B' : Int} {s t : PlS} {d e lb eb : Nat}
theorem Both.keeps (h : Both z W V B B' s t d e lb eb) (hk : Keeps (fun _ => False) W W') : Both z W' V B B' s t d e lb eb := by
  obtain ⟨F, a⟩ := h.d
  obtain ⟨G, b⟩ := h.e
  exact ⟨⟨F, a.quiet hk⟩, ⟨G, b.quiet hk⟩, fun i x hx => (hk.cell (p := ⟨lb, i, none⟩) h.lt.1 (fun x => x)).trans (h.dl i x hx), fun i x hx => (hk.cell (p := ⟨eb, i, none⟩) h.lt.2 (fun x => x)).trans (h.el i x hx), h.below.trans (hk.below h.below.size (fun _ _ x => x)), Nat.lt_of_lt_of_le h.lt.1 hk.size, Nat.lt_of_lt_of_le h.lt.2 hk.size⟩
theorem both_of {w w1 w2 w3 w4 : World} {m : Nat} {Fd Fe Fd' Fe' : Nat → Prop} {a b : St} {lv lv' rv rv' : Value} {bs bs' : List Nat} (hd : Bd w1 d V B a 0 Fd ∧ Keeps (fun _ => False) w w1 ∧ ∀ x, Fd x → w.heap.size ≤ x) (he : Bd w2 e V B' b 0 Fe ∧ Keeps (fun _ => False) w1 w2 ∧ ∀ x, Fe x → w1.heap.size ≤ x)
    (pd : Pl w2.heap.size w3 d V B m s.st s.calls Fd' s.l lv s.Rs rv bs ∧ Mv w2 w3 Fd Fd') (pe : Pl w3.heap.size w4 e V B' m t.st t.calls Fe' t.l lv' t.Rs rv' bs' ∧ Mv w3 w4 Fe Fe') (h0 : 0 < s.l.length) (h1 : 0 < t.l.length) :
    ∃ lb lc eb ec, lv = .slice (some ⟨lb, 0, none⟩) s.l.length lc ∧ lv' = .slice (some ⟨eb, 0, none⟩) t.l.length ec ∧ s.l.length ≤ lc ∧ t.l.length ≤ ec ∧ Both w w4 V B B' s t d e lb eb := by
  have q1 := hd.2.1.size
  have q2 := he.2.1.size
  have q3 := pd.2.keeps.size
  have q4 := pe.2.keeps.size
  have fd : ∀ x, Fd x → x < w1.heap.size := hd.1.lt
  have fe : ∀ x, Fe x → x < w2.heap.size := he.1.lt
  have hfe : ∀ x, Fd' x → ¬ Fe x := fun x hx hy => by
    have a1 := he.2.2 x hy
    have a2 := fe x hy
    rcases pd.2.fp x hx with q | q
    · have := fd x q; omega
    · omega
  obtain ⟨lb, lc, _, _, e1, _, e2, _, _, _, e3, _, e4, _⟩ := pd.1.form h0
  obtain ⟨eb, ec, _, _, g1, _, g2, _, _, _, g3, _, g4, _⟩ := pe.1.form h1
  have hz := pd.1.lz lb (by rw [e1]; rfl)
  have nlb : ¬ Fe lb := fun hy => by have := fe lb hy; omega
  refine ⟨lb, lc, eb, ec, e1, g1, e2, g2, ⟨_, pd.1.bd.keeps pe.2.keeps hfe⟩, ⟨_, pe.1.bd⟩, fun i x hx => (pe.2.keeps.cell (p := ⟨lb, i, none⟩) e3 nlb).trans (e4 i x hx), g4, ?_, by omega, g3⟩
  have k2 : Keeps (fun x => w.heap.size ≤ x) w w2 := (hd.2.1.trans he.2.1).mono (fun _ _ x => x.elim)
  have k3 : Keeps (fun x => w.heap.size ≤ x) w w3 := k2.trans_new pd.2.keeps (fun i hi hx => hd.2.2 i hx)
  have k4 : Keeps (fun x => w.heap.size ≤ x) w w4 := k3.trans_new pe.2.keeps (fun i hi hx => by have := he.2.2 i hx; omega)
  exact k4.below (Nat.le_refl _) (fun k hk hx => by omega)
end
/-- What the two plays are to one another. -/
theorem nodes_facts (k p : Nat) (hk : k ≤ 6) (hp : p < 80) (os : List OpR) : ∃ (j : Nat), j ≤ 30 ∧ (playM k 1048576 k os).l.length = j + 2 ∧ (playM k p k os).l.length = j + 2 ∧ (playM k 1048576 k os).st.n ≤ (playM k 1048576 k os).calls * 2 ^ (k + 1) ∧ (playM k 1048576 k os).calls ≤ 90 ∧
    (playM k 1048576 k os).st.n ≤ 5760 ∧ (playM k p k os).st.n ≤ p ∧ (playM k p k os).st.s = decide (p < (playM k 1048576 k os).st.n) ∧ ((playM k p k os).st.s = false → (playM k 1048576 k os).l = (playM k p k os).l) := by
  obtain ⟨j, h1, h2, h3, h4⟩ := playM_inv (V := (k : Int)) (B := 1048576) (by omega) (by omega) k os
  obtain ⟨i, g1, g2, g3, g4⟩ := playM_inv (V := (k : Int)) (B := p) (by omega) (by omega) k os
  have e : i = j := by omega
  subst e
  have hs := playM_sim (V := (k : Int)) (B := (p : Int)) (B' := 1048576) (by omega) k os
  have hb := playM_bnd (V := (k : Int)) (B := (p : Int)) (by omega) k os
  have ha := playM_bnd (V := (k : Int)) (B := 1048576) (by omega) k os
  have hn := h3.wf.n
  have hc := h3.calls
  have e1 : (playM k 1048576 k os).st.s = false := by
    cases e : (playM k 1048576 k os).st.s with
    | false => rfl
    | true => have := ha.2 e; omega
  refine ⟨i, h1, h3.len, g3.len, h4, by omega, by omega, by omega, ?_, fun e => by rw [hs.no e]⟩
  cases e : (playM k p k os).st.s with
  | true =>
    have h5 := hs.yes e
    rw [e1] at h5
    rcases h5 with h5 | h5
    · cases h5
    · simp only [Bool.true_eq, decide_eq_true_eq]; omega
  | false =>
    have h5 := hs.no e
    rw [h5]
    simp only [Bool.false_eq, decide_eq_false_iff_not]; omega
set_option maxRecDepth 100000 in
set_option maxHeartbeats 3200000 in
theorem iteNodes_core (w : World) (X Y : Nat) (hX : X < 18446744073709551616) (hY : Y < 18446744073709551616) (ao : Option Addr) (n cap : Nat) (os : List OpR) (hos : os.length = n) (hO : OpRow w ao os) (hcap : n ≤ cap) :
    Calls Try.prog 3 #[.int .u64 X, .int .u64 Y, .slice ao n cap] w fun e w' => e = .returned (.bool true) ∧ Below w.heap.size w w' := by
  obtain ⟨k, hk⟩ : ∃ k, X % 7 = k := ⟨_, rfl⟩
  obtain ⟨p, hp⟩ : ∃ p, Y % 80 = p := ⟨_, rfl⟩
  have hk6 : k ≤ 6 := by omega
  have hp80 : p < 80 := by omega
  have hpt : ((Y : Int)).tmod 80 = (p : Int) := by rw [Int.tmod_eq_emod_of_nonneg (by omega), ← hp]; simp
  have hpw : IntKind.i64.wrap (p : Int) = (p : Int) := IntWalk.i64_in _ (by omega)
  have HM : Hid (Calls Try.prog 5 #[.int .u64 X] w fun e W' => e = .returned (.int .i64 (k : Int)) ∧ w = W') := by
    have e := many_spec w X hX
    rw [hk] at e
    exact e
  have HN : Hid (∀ W (b : Nat), Calls Try.prog 6 #[.int .i64 (k : Int), .int .i64 (b : Int)] W fun e W' => ∃ db Fp, e = .returned (.pointer (some ⟨db, 0, none⟩)) ∧ Hid (Bd W' db k b st0 0 Fp ∧ Keeps (fun _ => False) W W' ∧ ∀ x, Fp x → W.heap.size ≤ x)) := fun W b => bnew_spec W k b k b (by omega) (by omega) rfl ⟨by omega, rfl⟩
  have HN1 : Hid (Calls Try.prog 6 #[.int .i64 (k : Int), .int .i64 1048576] w fun e W' => ∃ db Fp, e = .returned (.pointer (some ⟨db, 0, none⟩)) ∧ Hid (Bd W' db k 1048576 st0 0 Fp ∧ Keeps (fun _ => False) w W' ∧ ∀ x, Fp x → w.heap.size ≤ x)) := bnew_spec w k 1048576 k 1048576 (by omega) (by omega) rfl ⟨by omega, rfl⟩
  have HP : Hid (∀ (W : World) (db : Nat) (B : Int) (Fp : Nat → Prop), Bd W db k B st0 0 Fp → OpRow W ao os → (0 < os.length → ∀ b off, ao = some ⟨b, off, none⟩ → ¬ Fp b) → Calls Try.prog 7 #[.pointer (some ⟨db, 0, none⟩), .int .i64 (k : Int), .slice ao n cap] W (PlayPost k B k (2 ^ k) os db Fp W (playM k B k os))) := fun W db B Fp h ho hf => play_spec k hk6 rfl _ rfl h ho hos hcap hf
  have HO := Lib.hid hO
  have HB : Hid (0 < os.length → ∀ b off, ao = some ⟨b, off, none⟩ → b < w.heap.size) := fun h0 b off e => by
    obtain ⟨b', off', e', hlt, _⟩ := hO h0
    rw [e'] at e
    simp only [Option.some.injEq, Addr.mk.injEq, and_true] at e
    omega
  have HF := Lib.hid (nodes_facts k p hk6 hp80 os)
  clear hO hX hY hk hp
  go_enter Try.func3, Try.ntmps3
  go_wp2_with fail
  refine HM.out.mono ?_
  rintro e w' ⟨rfl, rfl⟩
  clear HM
  go_wp2_with fail
  refine HN1.out.mono ?_
  rintro e w1 ⟨db, Fd, rfl, hd⟩
  clear HN1
  go_wp2_with fail
  refine (HN.out _ p).mono ?_
  rintro e w2 ⟨de, Fe, rfl, he⟩
  clear HN
  have HO1 : Hid (OpRow w2 ao os) := (HO.out.keeps hd.out.2.1 (fun _ _ _ x => x)).keeps he.out.2.1 (fun _ _ _ x => x)
  have HF1 : Hid (0 < os.length → ∀ b off, ao = some ⟨b, off, none⟩ → ¬ Fd b ∧ ¬ Fe b) := fun h0 b off e => by
    have h1 := HB.out h0 b off e
    have h2 := hd.out.2.1.size
    refine ⟨fun hf => ?_, fun hf => ?_⟩
    · have := hd.out.2.2 b hf; omega
    · have := he.out.2.2 b hf; omega
  have HD1 : Hid (Bd w2 db k 1048576 st0 0 Fd) := hd.out.1.quiet he.out.2.1
  clear HO HB
  go_wp2_with fail
  refine (HP.out w2 db 1048576 Fd HD1.out HO1.out (fun h0 b off e => (HF1.out h0 b off e).1)).mono ?_
  rintro e w3 ⟨lv, rv, bs, Fd', rfl, hpd⟩
  have HO2 : Hid (OpRow w3 ao os) := fun h0 => (HO1.out.keeps hpd.out.2.keeps (fun b off e => (HF1.out h0 b off e).1)) h0
  have HE2 : Hid (Bd w3 de k p st0 0 Fe) := he.out.1.keeps hpd.out.2.keeps (fun x hx hy => by
    have h1 := he.out.2.2 x hx
    have h2 := hd.out.1.lt x hy
    omega)
  clear HD1 HO1
  go_wp2_with fail
  refine (HP.out w3 de p Fe HE2.out HO2.out (fun h0 b off e => (HF1.out h0 b off e).2)).mono ?_
  rintro e w4 ⟨lv', rv', bs', Fe', rfl, hpe⟩
  clear HE2 HO2 HF1 HP
  obtain ⟨j, hj, f1, f2, f3, f4, f5, f6, f7, f8⟩ := HF.out
  obtain ⟨lb, lc, eb, ec, rfl, rfl, hlc, hec, hB⟩ := both_of hd.out he.out hpd.out hpe.out (by omega) (by omega)
  have HB := Lib.hid hB
  clear hd he hpd hpe HF hB
  generalize playM k 1048576 k os = sd at *
  generalize playM k p k os = se at *
  rw [f1] at hlc ⊢
  rw [f2] at hec ⊢
  have C1 : Hid (∀ W, Hid (Both w W k 1048576 p sd se db de lb eb) → Calls Try.prog 8 #[.pointer (some ⟨db, 0, none⟩)] W fun e w' => e = .returned (.int .i64 sd.st.n) ∧ Keeps (fun _ => False) W w') := fun W h => by
    obtain ⟨F, a⟩ := h.out.d
    exact (blen_spec a (by omega)).mono fun e w' hh => ⟨hh.1, by rw [← hh.2]; exact Keeps.refl _ _⟩
  have C2 : Hid (∀ W, Hid (Both w W k 1048576 p sd se db de lb eb) → Calls Try.prog 8 #[.pointer (some ⟨de, 0, none⟩)] W fun e w' => e = .returned (.int .i64 se.st.n) ∧ Keeps (fun _ => False) W w') := fun W h => by
    obtain ⟨F, a⟩ := h.out.e
    exact (blen_spec a (by omega)).mono fun e w' hh => ⟨hh.1, by rw [← hh.2]; exact Keeps.refl _ _⟩
  have C3 : Hid (∀ W, Hid (Both w W k 1048576 p sd se db de lb eb) → Calls Try.prog 9 #[.pointer (some ⟨de, 0, none⟩)] W fun e w' => e = .returned (.bool se.st.s) ∧ Keeps (fun _ => False) W w') := fun W h => by
    obtain ⟨F, a⟩ := h.out.e
    exact (bspent_spec a).mono fun e w' hh => ⟨hh.1, by rw [← hh.2]; exact Keeps.refl _ _⟩
  have KK : Hid (∀ W W', Hid (Both w W k 1048576 p sd se db de lb eb) → Keeps (fun _ => False) W W' → Hid (Both w W' k 1048576 p sd se db de lb eb)) := fun W W' h hk => Lib.hid (h.out.keeps hk)
  generalize sd.st.n = nd at *
  generalize se.st.n = ne at *
  generalize sd.calls = cd at *
  generalize hs : se.st.s = ss at *
  have hss := Lib.hid hs
  clear hs
  have D2 : decide (p < ne) = false := by simp; omega
  have D3 : decide (p < nd) = ss := f7.symm
  have hbk : IntKind.i64.wrap ((k : Int) + 1) = ((k + 1 : Nat) : Int) := (IntWalk.i64_in _ (by omega)).trans (by omega)
  obtain ⟨M, hM⟩ : ∃ M, M = cd * 2 ^ (k + 1) := ⟨_, rfl⟩
  have hM2 : M ≤ 90 * 128 := by rw [hM]; exact Nat.mul_le_mul f4 (Nat.pow_le_pow_right (by omega) (show k + 1 ≤ 7 by omega))
  have hsh : IntKind.i64.wrap ((cd : Int) * 2 ^ (k + 1)) = (M : Int) := by
    rw [show (cd : Int) * 2 ^ (k + 1) = (M : Int) from by rw [hM]; push_cast; rfl]
    exact IntWalk.i64_in _ (by omega)
  have D1 : decide (M < nd) = false := by rw [← hM] at f3; simp; omega
  clear hM hM2 f3
  have G := Lib.hid (And.intro f1 (And.intro f2 f8))
  clear f1 f2 f7 f8 f5 f6
  go_upto_region 5 with fail
  go_cut [74] (fun t wx => t = .bool false ∧ Hid (Both w wx k 1048576 p sd se db de lb eb))
  case first =>
    as_aux_lemma =>
    go_region_held3 (fun w' => Hid (Both w w' k 1048576 p sd se db de lb eb)) (first | exact KK.out _ _ (by assumption) hk' | exact KK.out _ _ HB ((Keeps.refl _ _).drew)) ((first | (go_at_call 8; first | (refine (C1.out _ (by assumption)).mono ?_; rintro e w' ⟨rfl, hk'⟩) | (refine (C2.out _ (by assumption)).mono ?_; rintro e w' ⟨rfl, hk'⟩)) | (go_at_call 9; refine (C3.out _ (by assumption)).mono ?_; rintro e w' ⟨rfl, hk'⟩)))
    all_goals (go_wp2_with fail; go_meet; rename_i hh; exact ⟨rfl, hh⟩)
  case rest =>
    obtain ⟨rfl, HB5⟩ := hcut
    clear HB D1 D2 D3 C1 C2 hsh hbk hpt hpw
    go_wp2_with fail
    go_loopg [77] (j + 2) (fun g t wx => ∃ i : Nat, i ≤ j + 2 ∧ g = j + 2 - i ∧ t = .int .i64 i ∧ Hid (Both w wx k 1048576 p sd se db de lb eb))
    case atStart => exact ⟨0, Nat.zero_le _, rfl, rfl, HB5⟩
    case round =>
      clear HB5
      obtain ⟨i, hi, rfl, rfl, HI⟩ := hrel
      by_cases hlt : i < j + 2
      · have hiI : (i : Int) < (j : Int) + 2 := by omega
        have hwi : IntKind.i64.wrap ((i : Int) + 1) = (i : Int) + 1 := IntWalk.i64_in _ (by omega)
        have C5 : Hid (∀ W, Keeps (fun _ => False) wr W → Calls Try.prog 9 #[.pointer (some ⟨de, 0, none⟩)] W fun e w' => e = .returned (.bool ss) ∧ w' = W) := fun W hk => by
          obtain ⟨F, a⟩ := (HI.out.keeps hk).e
          have q := bspent_spec a
          rw [hss.out] at q
          exact q.mono fun e w' hh => ⟨hh.1, hh.2.symm⟩
        have HI2 : Hid (∀ q, Hid (Both w (wr.drewN q) k 1048576 p sd se db de lb eb)) := fun q => HI.out.keeps ((Keeps.refl _ _).drewN q)
        have hlc' : i < lc := by omega
        have hec' : i < ec := by omega
        have hlj : i < j + 2 := hlt
        cases ss with
        | true =>
          clear C3 KK hss
          go_upto_region 10 with fail
          go_quiet ((go_at_call 9; exact Calls.quiet_of_same (C5.out _ (by first | exact Keeps.refl _ _ | exact (Keeps.refl _ _).drewN _ | exact (Keeps.refl _ _).drew))))
          go_wp2_with fail
          go_roundg (j + 2 - (i + 1))
          case measure => omega
          case rel => exact ⟨i + 1, by omega, rfl, by go_num, HI2.out _⟩
        | false =>
          obtain ⟨x, hx⟩ : ∃ x, sd.l[i]? = some x := ⟨_, List.getElem?_eq_getElem (by have := G.out.1; omega)⟩
          have hy : se.l[i]? = some x := by rw [← G.out.2.2 rfl]; exact hx
          have hc1 := HI.out.dl i x hx
          have hc2 := HI.out.el i x hy
          clear hx hy C3 KK hss
          go_upto_region 10 with fail
          go_quiet ((go_at_call 9; exact Calls.quiet_of_same (C5.out _ (by first | exact Keeps.refl _ _ | exact (Keeps.refl _ _).drewN _ | exact (Keeps.refl _ _).drew))))
          go_wp2_with fail
          go_roundg (j + 2 - (i + 1))
          case measure => omega
          case rel => exact ⟨i + 1, by omega, rfl, by go_num, HI2.out _⟩
      · have hiI : ¬ (i : Int) < (j : Int) + 2 := by omega
        have HL := Lib.hid lives16_any
        go_wp2_with fail
        refine (HL.out _).mono ?_
        rintro e w5 ⟨rfl, hb⟩
        go_wp2
        go_ret
        exact ⟨rfl, HI.out.below.trans (hb.mono HI.out.below.size)⟩
theorem iteNodes_walk (w : World) (x : Int) (hx0 : 0 ≤ x) (hx1 : x ≤ 18446744073709551615) (y : Int) (hy0 : 0 ≤ y) (hy1 : y ≤ 18446744073709551615) (ao : Option Addr) (n cap : Nat) (G : Nat → Nat → Value) (R : IsRow w [.int .u64, .int .u64, .int .u64, .int .u64] ao n cap G) :
    Calls Try.prog 3 #[.int .u64 x, .int .u64 y, .slice ao n cap] w fun e w' => e = .returned (.bool true) ∧ Below w.heap.size w w' := by
  obtain ⟨X, rfl⟩ := Int.eq_ofNat_of_zero_le hx0
  obtain ⟨Y, rfl⟩ := Int.eq_ofNat_of_zero_le hy0
  obtain ⟨os, hos, hO⟩ := R.ops
  exact iteNodes_core w X Y (by omega) (by omega) ao n cap os hos hO R.le
end Go.Proofs.Ytplgaoojlaopmaa
