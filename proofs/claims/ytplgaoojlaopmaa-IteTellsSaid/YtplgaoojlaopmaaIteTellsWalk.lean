/-
  The walk of the law IteTells.
-/
import Derived.Test.YtplgaoojlaopmaaIteNodesWalk
import Derived.Test.YtplgaoojlaopmaaIteSameRow
set_option linter.unusedVariables false
set_option linter.unusedSimpArgs false
namespace Go.Proofs.Ytplgaoojlaopmaa
open Go.ChangeShapes Go.WideShapes Go.ChangeAt Go.RowKit Go.Deep NodePlain
/-- The diagrams' maker behind the play, and the lists. -/
structure Tld (z W : World) (V B : Int) (m : Nat) (s : PlS) (d lb rb : Nat) (bs : List Nat) : Prop where
  d : ∃ F, Bd W d V B s.st s.calls F
  l : ∀ (i : Nat) (x : Int), s.l[i]? = some x → W.cell? ⟨lb, i, none⟩ = some (.int .i64 x)
  r : ∀ (i b : Nat), bs[i]? = some b → W.cell? ⟨rb, i, none⟩ = some (.slice (some ⟨b, 0, none⟩) m m)
  row : ∀ (i b : Nat) (R : Nat → Bool), bs[i]? = some b → s.Rs[i]? = some R → RowAt W b m R
  bl : bs.length = s.l.length
  below : Below z.heap.size z W
  lt : lb < W.heap.size ∧ rb < W.heap.size
section
variable {z W W' : World} {V B : Int} {m : Nat} {s : PlS} {d lb rb : Nat} {bs : List Nat}
theorem Tld.keeps (h : Tld z W V B m s d lb rb bs) (hk : Keeps (fun _ => False) W W') : Tld z W' V B m s d lb rb bs := by
  obtain ⟨F, a⟩ := h.d
  exact ⟨⟨F, a.quiet hk⟩, fun i x hx => (hk.cell (p := ⟨lb, i, none⟩) h.lt.1 (fun x => x)).trans (h.l i x hx), fun i b hb => (hk.cell (p := ⟨rb, i, none⟩) h.lt.2 (fun x => x)).trans (h.r i b hb), fun i b R h1 h2 => (h.row i b R h1 h2).keeps hk (fun x => x), h.bl, h.below.trans (hk.below h.below.size (fun _ _ x => x)), Nat.lt_of_lt_of_le h.lt.1 hk.size, Nat.lt_of_lt_of_le h.lt.2 hk.size⟩
theorem tld_of {w w1 w2 : World} {Fd Fd' : Nat → Prop} {a : St} {lv rv : Value} (hd : Bd w1 d V B a 0 Fd ∧ Keeps (fun _ => False) w w1 ∧ ∀ x, Fd x → w.heap.size ≤ x) (pd : Pl w1.heap.size w2 d V B m s.st s.calls Fd' s.l lv s.Rs rv bs ∧ Mv w1 w2 Fd Fd') (h0 : 0 < s.l.length) :
    ∃ lb lc rb rc, lv = .slice (some ⟨lb, 0, none⟩) s.l.length lc ∧ rv = .slice (some ⟨rb, 0, none⟩) s.l.length rc ∧ s.l.length ≤ lc ∧ s.l.length ≤ rc ∧ Tld w w2 V B m s d lb rb bs := by
  obtain ⟨lb, lc, rb, rc, e1, e2, e3, e4, _, _, e5, e6, e7, e8⟩ := pd.1.form h0
  refine ⟨lb, lc, rb, rc, e1, e2, e3, e4, ⟨_, pd.1.bd⟩, e7, e8, fun i b R h1 h2 => (pd.1.row i b R h1 h2).1, pd.1.l1, ?_, e5, e6⟩
  have q1 := hd.2.1.size
  have k2 : Keeps (fun x => w.heap.size ≤ x) w w1 := hd.2.1.mono (fun _ _ x => x.elim)
  have k3 : Keeps (fun x => w.heap.size ≤ x) w w2 := k2.trans_new pd.2.keeps (fun i hi hx => hd.2.2 i hx)
  exact k3.below (Nat.le_refl _) (fun k hk hx => by omega)
end
set_option maxRecDepth 100000 in
set_option maxHeartbeats 3200000 in
theorem iteTells_core (w : World) (X : Nat) (hX : X < 18446744073709551616) (ao : Option Addr) (n cap : Nat) (os : List OpR) (hos : os.length = n) (hO : OpRow w ao os) (hcap : n ≤ cap) :
    Calls Try.prog 4 #[.int .u64 X, .slice ao n cap] w fun e w' => e = .returned (.bool true) ∧ Below w.heap.size w w' := by
  obtain ⟨k, hk⟩ : ∃ k, X % 7 = k := ⟨_, rfl⟩
  have hk6 : k ≤ 6 := by omega
  obtain ⟨m, hm⟩ : ∃ m, 2 ^ k = m := ⟨_, rfl⟩
  have hm64 : m ≤ 64 := by rw [← hm]; exact Nat.le_trans (Nat.pow_le_pow_right (by omega) hk6) (by decide)
  have HM : Hid (Calls Try.prog 5 #[.int .u64 X] w fun e W' => e = .returned (.int .i64 (k : Int)) ∧ w = W') := by
    have e := many_spec w X hX
    rw [hk] at e
    exact e
  have HN1 : Hid (Calls Try.prog 6 #[.int .i64 (k : Int), .int .i64 1048576] w fun e W' => ∃ db Fp, e = .returned (.pointer (some ⟨db, 0, none⟩)) ∧ Hid (Bd W' db k 1048576 st0 0 Fp ∧ Keeps (fun _ => False) w W' ∧ ∀ x, Fp x → w.heap.size ≤ x)) := bnew_spec w k 1048576 k 1048576 (by omega) (by omega) rfl ⟨by omega, rfl⟩
  have HP : Hid (∀ (W : World) (db : Nat) (B : Int) (Fp : Nat → Prop), Bd W db k B st0 0 Fp → OpRow W ao os → (0 < os.length → ∀ b off, ao = some ⟨b, off, none⟩ → ¬ Fp b) → Calls Try.prog 7 #[.pointer (some ⟨db, 0, none⟩), .int .i64 (k : Int), .slice ao n cap] W (PlayPost k B k m os db Fp W (playM k B k os))) := fun W db B Fp h ho hf => play_spec k hk6 rfl _ hm h ho hos hcap hf
  have HO := Lib.hid hO
  have HB : Hid (0 < os.length → ∀ b off, ao = some ⟨b, off, none⟩ → b < w.heap.size) := fun h0 b off e => by
    obtain ⟨b', off', e', hlt, _⟩ := hO h0
    rw [e'] at e
    simp only [Option.some.injEq, Addr.mk.injEq, and_true] at e
    omega
  have HF := Lib.hid (tells_facts k hk6 m hm os)
  have hV61 : (k : Int) ≤ 61 := by omega
  have HL := Lib.hid lives16_any
  clear hO hX hk hm
  go_enter Try.func4, Try.ntmps4
  go_wp2_with fail
  refine HM.out.mono ?_
  rintro e w' ⟨rfl, rfl⟩
  clear HM
  go_wp2_with fail
  refine HN1.out.mono ?_
  rintro e w1 ⟨db, Fd, rfl, hd⟩
  clear HN1
  have HO1 : Hid (OpRow w1 ao os) := HO.out.keeps hd.out.2.1 (fun _ _ _ x => x)
  have HF1 : Hid (0 < os.length → ∀ b off, ao = some ⟨b, off, none⟩ → ¬ Fd b) := fun h0 b off e hf => by
    have h1 := HB.out h0 b off e
    have := hd.out.2.2 b hf
    omega
  clear HO HB
  go_wp2_with fail
  refine (HP.out w1 db 1048576 Fd hd.out.1 HO1.out HF1.out).mono ?_
  rintro e w2 ⟨lv, rv, bs, Fd', rfl, hpd⟩
  clear HO1 HF1 HP
  generalize (os.take 30).length = j at HF
  generalize playM k 1048576 k os = s at *
  have hj := HF.out.le
  have f1 := HF.out.len
  obtain ⟨lb, lc, rb, rc, rfl, rfl, hlc, hrc, hT⟩ := tld_of hd.out hpd.out (by omega)
  have HT := Lib.hid hT
  clear hd hpd hT
  rw [f1] at hlc hrc ⊢
  have hcalls := HF.out.calls
  clear f1
  go_wp2_with fail
  go_loopg [30] (j + 2) (fun g t wx => ∃ i : Nat, i ≤ j + 2 ∧ g = j + 2 - i ∧ t = .int .i64 i ∧ Hid (Tld w wx k 1048576 m s db lb rb bs))
  case atStart => exact ⟨0, Nat.zero_le _, rfl, rfl, HT⟩
  case round =>
    clear HT
    obtain ⟨i, hi, rfl, rfl, HI⟩ := hrel
    by_cases hlt : i < j + 2
    · have hiI : (i : Int) < (j : Int) + 2 := by omega
      have hwi : IntKind.i64.wrap ((i : Int) + 1) = (i : Int) + 1 := IntWalk.i64_in _ (by omega)
      have hlc' : i < lc := by omega
      have hrc' : i < rc := by omega
      have hlj : i < j + 2 := hlt
      obtain ⟨x, hx⟩ : ∃ x, s.l[i]? = some x := ⟨_, List.getElem?_eq_getElem (by have := HF.out.len; omega)⟩
      obtain ⟨R, hR⟩ : ∃ R, s.Rs[i]? = some R := ⟨_, List.getElem?_eq_getElem (by have := HF.out.lenR; omega)⟩
      obtain ⟨b, hb⟩ : ∃ b, bs[i]? = some b := ⟨_, List.getElem?_eq_getElem (by have := HI.out.bl; have := HF.out.len; omega)⟩
      have hx1 := HF.out.is i x hx
      rw [isN_iff] at hx1
      have hx2 : x ≤ 1000000 := by have := HF.out.n; omega
      have CIS : Hid (Calls Try.prog 11 #[.pointer (some ⟨db, 0, none⟩), .int .i64 x] wr fun e W' => e = .returned (.bool true) ∧ wr = W') := by
        obtain ⟨F, a⟩ := HI.out.d
        have q := bis_spec a (by have := HF.out.n; omega) x (by omega)
        rw [HF.out.is i x hx] at q
        exact q
      have CSP : Hid (Calls Try.prog 9 #[.pointer (some ⟨db, 0, none⟩)] wr fun e W' => e = .returned (.bool false) ∧ wr = W') := by
        obtain ⟨F, a⟩ := HI.out.d
        have q := bspent_spec a
        rw [HF.out.ns] at q
        exact q
      have HX := Lib.hid hx
      have HR := Lib.hid hR
      have HB := Lib.hid hb
      have hc1 := HI.out.l i x hx
      have hc2 := HI.out.r i b hb
      have KT : Hid (∀ W W', Hid (Tld w W k 1048576 m s db lb rb bs) → Keeps (fun _ => False) W W' → Hid (Tld w W' k 1048576 m s db lb rb bs)) := fun W W' h hk => Lib.hid (h.out.keeps hk)
      have hx0 := hx1.1
      clear hx hR hb hx1
      go_wp2_with (first | (go_at_call 11; refine CIS.out.mono ?_; rintro e w' ⟨rfl, rfl⟩) | (go_at_call 9; refine CSP.out.mono ?_; rintro e w' ⟨rfl, rfl⟩))
      clear CIS CSP hc1 hc2
      go_loopg [48] m (fun g t wx => ∃ t0 : Nat, t0 ≤ m ∧ g = m - t0 ∧ t = .int .i64 t0 ∧ Hid (Tld w wx k 1048576 m s db lb rb bs))
      case atStart => exact ⟨0, Nat.zero_le _, rfl, rfl, HI⟩
      case round =>
        clear HI
        obtain ⟨t0, ht0, rfl, rfl, HJ⟩ := hrel
        by_cases hlt2 : t0 < m
        · have h2I : (t0 : Int) < (m : Int) := by omega
          have hwt : IntKind.u64.wrap (t0 : Int) = (t0 : Int) := IntWalk.u64_in _ (by omega)
          have hwi2 : IntKind.i64.wrap ((t0 : Int) + 1) = (t0 : Int) + 1 := IntWalk.i64_in _ (by omega)
          obtain ⟨v, hv⟩ : ∃ v, R t0 = v := ⟨_, rfl⟩
          have hS : wr.cell? ⟨rb, i, none⟩ = some (.slice (some ⟨b, 0, none⟩) m m) ∧ wr.cell? ⟨b, t0, none⟩ = some (.bool v) ∧ Hid (Tld w wr k 1048576 m s db lb rb bs) := ⟨HJ.out.r i b HB.out, by rw [← hv]; exact (HJ.out.row i b R HB.out HR.out).cell hlt2, HJ⟩
          have HS := Lib.hid hS
          have KS : Hid (∀ W W', (W.cell? ⟨rb, i, none⟩ = some (.slice (some ⟨b, 0, none⟩) m m) ∧ W.cell? ⟨b, t0, none⟩ = some (.bool v) ∧ Hid (Tld w W k 1048576 m s db lb rb bs)) → Keeps (fun _ => False) W W' → (W'.cell? ⟨rb, i, none⟩ = some (.slice (some ⟨b, 0, none⟩) m m) ∧ W'.cell? ⟨b, t0, none⟩ = some (.bool v) ∧ Hid (Tld w W' k 1048576 m s db lb rb bs))) := fun W W' h hk => by
            have hB := h.2.2.out.keeps hk
            exact ⟨hB.r i b HB.out, by rw [← hv]; exact (hB.row i b R HB.out HR.out).cell hlt2, hB⟩
          have CA : Hid (∀ (P1 P2 : Prop) (W : World), (P1 ∧ P2 ∧ Hid (Tld w W k 1048576 m s db lb rb bs)) → Calls Try.prog 12 #[.pointer (some ⟨db, 0, none⟩), .int .i64 x, .int .u64 t0] W fun e w' => e = .returned (.bool v) ∧ Keeps (fun _ => False) W w') := fun _ _ W h => by
            obtain ⟨F, a⟩ := h.2.2.out.d
            have q := bat_spec a hV61 (by have := HF.out.n; omega) x (by omega) (by omega) t0 (by omega)
            rw [HF.out.is i x HX.out, HF.out.sem i x R HX.out HR.out t0, hv, Bool.true_and] at q
            exact q.mono fun e w' hh => ⟨hh.1, Keeps.of_below hh.2 (Nat.le_refl _)⟩
          have HV := Lib.hid hv
          clear hv hS
          go_upto_region 14 with fail
          go_cut [63] (fun t wx => t = .bool false ∧ Hid (Tld w wx k 1048576 m s db lb rb bs))
          case first =>
            go_region_held3 (fun w' => w'.cell? ⟨rb, i, none⟩ = some (.slice (some ⟨b, 0, none⟩) m m) ∧ w'.cell? ⟨b, t0, none⟩ = some (.bool v) ∧ Hid (Tld w w' k 1048576 m s db lb rb bs)) (first | exact KS.out _ _ (by assumption) hk' | exact KS.out _ _ HS.out ((Keeps.refl _ _).drew)) ((go_at_call 12; refine (CA.out _ _ _ (by assumption)).mono ?_; rintro e w' ⟨rfl, hk'⟩))
            all_goals (go_wp2_with fail; go_meet; rename_i hh; exact ⟨rfl, hh.2.2⟩)
          case rest =>
            obtain ⟨rfl, HJ2⟩ := hcut
            clear KS CA HS HJ
            go_wp2_with fail
            go_roundg (m - (t0 + 1))
            case measure => omega
            case rel => exact ⟨t0 + 1, by omega, rfl, by go_num, HJ2⟩
        · have h2I : ¬ (t0 : Int) < (m : Int) := by omega
          go_wp2_with fail
          clear h2I hlt2 ht0
          go_loopg [66] i (fun g t wx => ∃ h : Nat, h ≤ i ∧ g = i - h ∧ t = .int .i64 h ∧ Hid (Tld w wx k 1048576 m s db lb rb bs))
          case atStart => exact ⟨0, Nat.zero_le _, rfl, rfl, HJ⟩
          case round =>
            clear HJ
            obtain ⟨h, hh0, rfl, rfl, HJ⟩ := hrel
            by_cases hlt3 : h < i
            · have h3I : (h : Int) < (i : Int) := by omega
              have hwi3 : IntKind.i64.wrap ((h : Int) + 1) = (h : Int) + 1 := IntWalk.i64_in _ (by omega)
              have hlc3 : h < lc := by omega
              have hrc3 : h < rc := by omega
              have hhj : h < j + 2 := by omega
              have hhjI : (h : Int) < (j : Int) + 2 := by omega
              obtain ⟨y, hy⟩ : ∃ y, s.l[h]? = some y := ⟨_, List.getElem?_eq_getElem (by have := HF.out.len; omega)⟩
              obtain ⟨Q, hQ⟩ : ∃ Q, s.Rs[h]? = some Q := ⟨_, List.getElem?_eq_getElem (by have := HF.out.lenR; omega)⟩
              obtain ⟨bq, hbq⟩ : ∃ b, bs[h]? = some b := ⟨_, List.getElem?_eq_getElem (by have := HJ.out.bl; have := HF.out.len; omega)⟩
              obtain ⟨v, hv⟩ : ∃ v, sameN Q R m = v := ⟨_, rfl⟩
              have hv1 : decide (y = x) = v := by rw [← hv]; exact HF.out.same i h x y R Q HX.out HR.out hy hQ
              have hv2 : (y == x) = v := by rw [← hv1]; rfl
              have HBQ := Lib.hid hbq
              have HQ := Lib.hid hQ
              have HY := Lib.hid hy
              have hS : wr.cell? ⟨lb, h, none⟩ = some (.int .i64 y) ∧ wr.cell? ⟨rb, h, none⟩ = some (.slice (some ⟨bq, 0, none⟩) m m) ∧ wr.cell? ⟨rb, i, none⟩ = some (.slice (some ⟨b, 0, none⟩) m m) ∧ Hid (Tld w wr k 1048576 m s db lb rb bs) := ⟨HJ.out.l h y hy, HJ.out.r h bq hbq, HJ.out.r i b HB.out, HJ⟩
              have HS := Lib.hid hS
              have KS : Hid (∀ W W', (W.cell? ⟨lb, h, none⟩ = some (.int .i64 y) ∧ W.cell? ⟨rb, h, none⟩ = some (.slice (some ⟨bq, 0, none⟩) m m) ∧ W.cell? ⟨rb, i, none⟩ = some (.slice (some ⟨b, 0, none⟩) m m) ∧ Hid (Tld w W k 1048576 m s db lb rb bs)) → Keeps (fun _ => False) W W' → (W'.cell? ⟨lb, h, none⟩ = some (.int .i64 y) ∧ W'.cell? ⟨rb, h, none⟩ = some (.slice (some ⟨bq, 0, none⟩) m m) ∧ W'.cell? ⟨rb, i, none⟩ = some (.slice (some ⟨b, 0, none⟩) m m) ∧ Hid (Tld w W' k 1048576 m s db lb rb bs))) := fun W W' h hk => by
                have hB := h.2.2.2.out.keeps hk
                exact ⟨hB.l _ y HY.out, hB.r _ bq HBQ.out, hB.r i b HB.out, hB⟩
              have CA : Hid (∀ (P1 P2 P3 : Prop) (W : World), (P1 ∧ P2 ∧ P3 ∧ Hid (Tld w W k 1048576 m s db lb rb bs)) → Calls Try.prog 13 #[.slice (some ⟨bq, 0, none⟩) m m, .slice (some ⟨b, 0, none⟩) m m] W fun e w' => e = .returned (.bool v) ∧ Keeps (fun _ => False) W w') := fun _ _ _ W hw => by
                have q := same_spec hm64 (hw.2.2.2.out.row h bq Q HBQ.out HQ.out) (hw.2.2.2.out.row i b R HB.out HR.out)
                rw [hv] at q
                exact q
              clear hv hS hy hQ hbq
              go_upto_region 20 with fail
              go_cut [84] (fun t wx => t = .bool false ∧ Hid (Tld w wx k 1048576 m s db lb rb bs))
              case first =>
                go_region_held3 (fun w' => w'.cell? ⟨lb, h, none⟩ = some (.int .i64 y) ∧ w'.cell? ⟨rb, h, none⟩ = some (.slice (some ⟨bq, 0, none⟩) m m) ∧ w'.cell? ⟨rb, i, none⟩ = some (.slice (some ⟨b, 0, none⟩) m m) ∧ Hid (Tld w w' k 1048576 m s db lb rb bs)) (first | exact KS.out _ _ (by assumption) hk' | exact KS.out _ _ HS.out ((Keeps.refl _ _).drew)) ((go_at_call 13; refine (CA.out _ _ _ _ (by assumption)).mono ?_; rintro e w' ⟨rfl, hk'⟩))
                all_goals (go_wp2_with fail; go_meet; rename_i hh; exact ⟨rfl, hh.2.2.2⟩)
              case rest =>
                obtain ⟨rfl, HJ2⟩ := hcut
                clear KS CA HS HJ hv1 hv2
                go_wp2_with fail
                go_roundg (i - (h + 1))
                case measure => omega
                case rel => exact ⟨h + 1, by omega, rfl, by go_num, HJ2⟩
            · have h3I : ¬ (h : Int) < (i : Int) := by omega
              go_wp2_with fail
              go_roundg (j + 2 - (i + 1))
              case measure => omega
              case rel => exact ⟨i + 1, by omega, rfl, by go_num, HJ⟩
    · have hiI : ¬ (i : Int) < (j : Int) + 2 := by omega
      have CC : Hid (Calls Try.prog 14 #[.pointer (some ⟨db, 0, none⟩)] wr fun e W' => e = .returned (.int .i64 s.calls) ∧ wr = W') := by
        obtain ⟨F, a⟩ := HI.out.d
        exact bcalls_spec a
      have CV : Hid (Calls Try.prog 15 #[.pointer (some ⟨db, 0, none⟩)] wr fun e W' => e = .returned (.int .i64 k) ∧ wr = W') := by
        obtain ⟨F, a⟩ := HI.out.d
        exact bvars_spec a
      go_wp2_with (first | (go_at_call 14; refine CC.out.mono ?_; rintro e w' ⟨rfl, rfl⟩) | (go_at_call 15; refine CV.out.mono ?_; rintro e w' ⟨rfl, rfl⟩) | (go_at_call 10; refine (HL.out _).mono ?_; rintro e w' ⟨rfl, hb⟩))
      go_ret
      exact ⟨rfl, HI.out.below.trans (hb.mono HI.out.below.size)⟩
theorem iteTells_walk (w : World) (x : Int) (hx0 : 0 ≤ x) (hx1 : x ≤ 18446744073709551615) (ao : Option Addr) (n cap : Nat) (G : Nat → Nat → Value) (R : IsRow w [.int .u64, .int .u64, .int .u64, .int .u64] ao n cap G) :
    Calls Try.prog 4 #[.int .u64 x, .slice ao n cap] w fun e w' => e = .returned (.bool true) ∧ Below w.heap.size w w' := by
  obtain ⟨X, rfl⟩ := Int.eq_ofNat_of_zero_le hx0
  obtain ⟨os, hos, hO⟩ := R.ops
  exact iteTells_core w X (by omega) ao n cap os hos hO R.le
end Go.Proofs.Ytplgaoojlaopmaa
