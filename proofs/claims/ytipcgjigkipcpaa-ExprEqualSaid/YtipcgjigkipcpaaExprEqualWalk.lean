/-
  The walk of the law ExprEqual.
-/
import Derived.Test.YtipcgjigkipcpaaExprMaker
import Derived.Test.YtipcgjigkipcpaaExprRefRight
import Derived.Test.YtipcgjigkipcpaaExprRefAt
import Derived.Test.YtipcgjigkipcpaaExprEq
set_option linter.unusedVariables false
set_option linter.unusedSimpArgs false
set_option linter.unnecessarySimpa false
namespace Go.Proofs.Ytipcgjigkipcpaa
open Go.ChangeShapes Go.WideShapes Go.ChangeAt Go.RowKit Go.Deep NodePlain
set_option maxRecDepth 100000
set_option maxHeartbeats 6400000
theorem exprEqual_walk (w : World) (x : Int) (hx0 : 0 ≤ x) (hx1 : x ≤ 18446744073709551615) (ao : Option Addr) (na capa : Nat) (Ga : Nat → Nat → Value) (Ra : IsRow w [.int .i64, .int .i64, .int .i64] ao na capa Ga) (bo : Option Addr) (nb capb : Nat) (Gb : Nat → Nat → Value) (Rb : IsRow w [.int .i64, .int .i64, .int .i64] bo nb capb Gb) :
    Calls Try.prog 8 #[.int .u64 x, .slice ao na capa, .slice bo nb capb] w fun e w' => e = .returned (.bool true) ∧ Below w.heap.size w w' := by
  obtain ⟨X, rfl⟩ := Int.eq_ofNat_of_zero_le hx0
  obtain ⟨k, hk⟩ : ∃ k, X % 9 = k := ⟨_, rfl⟩
  have hk8 : k ≤ 8 := by omega
  have hmod : ((X : Int)).tmod 9 = (k : Int) := by rw [Int.tmod_eq_emod_of_nonneg (by omega)]; omega
  have hwk : IntKind.i64.wrap (k : Int) = (k : Int) := IntWalk.i64_in _ (by omega)
  obtain ⟨N, hN⟩ : ∃ m, 2 ^ k = m := ⟨_, rfl⟩
  have hN256 : N ≤ 256 := by rw [← hN]; exact Nat.le_trans (Nat.pow_le_pow_right (by omega) hk8) (by decide)
  have hpw : IntKind.u64.wrap ((2 : Int) ^ k) = (N : Int) := by rw [← hN]; exact pow_bit (by omega)
  obtain ⟨n, hn⟩ : ∃ n, n = min na 40 := ⟨_, rfl⟩
  obtain ⟨m, hm⟩ : ∃ n, n = min nb 40 := ⟨_, rfl⟩
  obtain ⟨a, hl, hrow, _⟩ := Ra.sps (show n ≤ na by omega)
  obtain ⟨b, hlb, hrowb, _⟩ := Rb.sps (show m ≤ nb by omega)
  have hlea := Ra.le
  have hleb := Rb.le
  have hnc : n ≤ capa := by omega
  have hmc : m ≤ capb := by omega
  have hn40 : n ≤ 40 := by omega
  have hm40 : m ≤ 40 := by omega
  have hnI : min (na : Int) 40 = (n : Int) := by omega
  have hmI : min (nb : Int) 40 = (m : Int) := by omega
  have hna : n ≤ na := by omega
  have hmb : m ≤ nb := by omega
  have HRA : Hid (∀ W', Keeps (fun x => w.heap.size ≤ x) w W' → Calls Try.prog 27 #[.int .i64 (k : Int), .slice ao n capa] W' fun e W2 => e = .returned (.bool (rightE k a)) ∧ Keeps (fun _ => False) W' W2) := fun W' hk => rright_spec W' k hl hnc (hrow.old hk)
  have HRB : Hid (∀ W', Keeps (fun x => w.heap.size ≤ x) w W' → Calls Try.prog 27 #[.int .i64 (k : Int), .slice bo m capb] W' fun e W2 => e = .returned (.bool (rightE k b)) ∧ Keeps (fun _ => False) W' W2) := fun W' hk => rright_spec W' k hlb hmc (hrowb.old hk)
  have HSA : Hid (∀ W', Keeps (fun x => w.heap.size ≤ x) w W' → Calls Try.prog 29 #[.slice ao n capa] W' fun e W2 => ∃ so c, e = .returned (.slice so n c) ∧ n ≤ c ∧ Hid (Keeps (fun _ => False) W' W2 ∧ SpRow W2 so a ∧ ∀ b off, so = some ⟨b, off, none⟩ → W'.heap.size ≤ b)) := fun W' hk => steps_spec W' hl hnc (by omega) (hrow.old hk)
  have HSB : Hid (∀ W', Keeps (fun x => w.heap.size ≤ x) w W' → Calls Try.prog 29 #[.slice bo m capb] W' fun e W2 => ∃ so c, e = .returned (.slice so m c) ∧ m ≤ c ∧ Hid (Keeps (fun _ => False) W' W2 ∧ SpRow W2 so b ∧ ∀ b off, so = some ⟨b, off, none⟩ → W'.heap.size ≤ b)) := fun W' hk => steps_spec W' hlb hmc (by omega) (hrowb.old hk)
  have HNEW : Hid (∀ w : World, Calls Try.prog 13 #[.int .i64 (k : Int), .int .i64 1048576] w fun e W' => ∃ db Fp, e = .returned (.pointer (some ⟨db, 0, none⟩)) ∧ Hid (Bd W' db k 1048576 st0 0 Fp ∧ Keeps (fun _ => False) w W' ∧ ∀ x, Fp x → w.heap.size ≤ x)) := fun w => bnew_spec w k 1048576 k 1048576 (by omega) (by omega) rfl ⟨by omega, rfl⟩
  have HEN : Hid (∀ (W' : World) s1 s2 c1 c2, n ≤ c1 → m ≤ c2 → SpRow W' s1 a → SpRow W' s2 b → (rightE k a && rightE k b) = false → Calls Try.prog 46 #[.int .i64 k, .slice s1 n c1, .slice s2 m c2] W' fun e W2 => e = .returned (.tuple #[.bool false, .int .u64 0, .bool false]) ∧ Keeps (fun _ => False) W' W2) := fun W' s1 s2 c1 c2 h1 h2 r1 r2 ho => equal_no hk8 hl hlb h1 h2 r1 r2 ho
  have HEY : Hid (∀ (W' : World) s1 s2 c1 c2, n ≤ c1 → m ≤ c2 → SpRow W' s1 a → SpRow W' s2 b → rightE k a = true → rightE k b = true → Calls Try.prog 46 #[.int .i64 k, .slice s1 n c1, .slice s2 m c2] W' fun e W2 => ∃ same q, e = .returned (.tuple #[.bool same, .int .u64 ((q : Nat) : Int), .bool true]) ∧ Hid (Keeps (fun _ => False) W' W2 ∧ FirstAt (fun p => atE p.testBit a) (fun p => atE p.testBit b) N same q)) := fun W' s1 s2 c1 c2 h1 h2 r1 r2 o1 o2 => by
    have q := equal_yes hk8 hl hlb h1 h2 r1 r2 o1 o2
    rw [hN] at q
    exact q
  have HBA : Hid (∀ {W : World} {db : Nat} {st : St} {u : Nat} {c : Int} {F : Nat → Prop} {so : Option Addr} {cap : Nat}, BK w W db k st u c F → n ≤ cap → u ≤ 1000 → SpRow W so a → (∀ b off, so = some ⟨b, off, none⟩ → ¬ F b) → rightE k a = true → Calls Try.prog 35 #[.pointer (some ⟨db, 0, none⟩), .slice so n cap] W fun e W' => ∃ x st' c' F', e = .returned (.tuple #[.int .i64 x, .bool true]) ∧ Hid (BK w W' db k st' (u + n) c' F' ∧ Ext st.L st.n st'.L st'.n ∧ isN st'.n x = true ∧ (∀ β, ev st'.L β x = atE β a) ∧ Mv W W' F F')) := fun h hc hu hr hra ho => h.build hk8 hl hc (by omega) hr hra ho
  have HBB : Hid (∀ {W : World} {db : Nat} {st : St} {u : Nat} {c : Int} {F : Nat → Prop} {so : Option Addr} {cap : Nat}, BK w W db k st u c F → m ≤ cap → u ≤ 1000 → SpRow W so b → (∀ b off, so = some ⟨b, off, none⟩ → ¬ F b) → rightE k b = true → Calls Try.prog 35 #[.pointer (some ⟨db, 0, none⟩), .slice so m cap] W fun e W' => ∃ x st' c' F', e = .returned (.tuple #[.int .i64 x, .bool true]) ∧ Hid (BK w W' db k st' (u + m) c' F' ∧ Ext st.L st.n st'.L st'.n ∧ isN st'.n x = true ∧ (∀ β, ev st'.L β x = atE β b) ∧ Mv W W' F F')) := fun h hc hu hr hra ho => h.build hk8 hlb hc (by omega) hr hra ho
  have HATA : Hid (∀ (W' : World) (q : Nat), q < 18446744073709551616 → Keeps (fun x => w.heap.size ≤ x) w W' → rightE k a = true → Calls Try.prog 31 #[.int .u64 q, .slice ao n capa] W' fun e W2 => e = .returned (.bool (atE q.testBit a)) ∧ Keeps (fun _ => False) W' W2) := fun W' q hq hk hok => rat19_spec W' hq hl hnc (hrow.old hk) hok
  have HATB : Hid (∀ (W' : World) (q : Nat), q < 18446744073709551616 → Keeps (fun x => w.heap.size ≤ x) w W' → rightE k b = true → Calls Try.prog 31 #[.int .u64 q, .slice bo m capb] W' fun e W2 => e = .returned (.bool (atE q.testBit b)) ∧ Keeps (fun _ => False) W' W2) := fun W' q hq hk hok => rat19_spec W' hq hlb hmc (hrowb.old hk) hok
  have HNP := Lib.hid hN
  have HL := Lib.hid lives19_any
  clear hrow hrowb hx0 hx1 hk hn hm Ra Rb
  go_enter Try.func8, Try.ntmps8
  go_upto_region 1 with fail
  go_cut [1, 2] (fun t s wx => t = .slice ao n capa ∧ s = .slice bo m capb ∧ ∃ nq, wx = w.drewN nq)
  case first =>
    go_quiet (fail)
    go_wp2_with fail
    all_goals (go_meet; refine ⟨?_, ?_, _, rfl⟩ <;> (simp only [Value.slice.injEq, true_and, and_true]; omega))
  case rest =>
    obtain ⟨rfl, rfl, nq, rfl⟩ := hcut
    have hk0 : Keeps (fun x => w.heap.size ≤ x) w (w.drewN nq) := (Keeps.refl _ _).drewN nq
    have hk00 : Keeps (fun _ => False) w (w.drewN nq) := (Keeps.refl _ _).drewN nq
    have HK0 := Lib.hid (And.intro hk0 hk00)
    generalize w.drewN nq = w0 at *
    clear hnI hmI hlea hleb hna hmb hk0 hk00
    go_wp2_with fail
    refine (HSA.out _ HK0.out.1).mono ?_
    rintro e w1 ⟨s1, c1, rfl, hc1, h1⟩
    have HK1 : Hid (Keeps (fun x => w.heap.size ≤ x) w w1 ∧ Keeps (fun _ => False) w w1 ∧ SpRow w1 s1 a) := ⟨HK0.out.1.trans_new h1.out.1 (fun _ _ x => x.elim), HK0.out.2.trans h1.out.1, h1.out.2.1⟩
    clear h1 HK0
    go_wp2_with fail
    refine (HSB.out _ HK1.out.1).mono ?_
    rintro e w2 ⟨s2, c2, rfl, hc2, h2⟩
    have HK2 : Hid (Keeps (fun x => w.heap.size ≤ x) w w2 ∧ Keeps (fun _ => False) w w2 ∧ SpRow w2 s1 a ∧ SpRow w2 s2 b) := ⟨HK1.out.1.trans_new h2.out.1 (fun _ _ x => x.elim), HK1.out.2.1.trans h2.out.1, HK1.out.2.2.quiet h2.out.1, h2.out.2.1⟩
    clear h2 HK1
    cases ho : (rightE k a && rightE k b) with
    | false =>
      have HC := Lib.hid (HEN.out w2 s1 s2 c1 c2 hc1 hc2 HK2.out.2.2.1 HK2.out.2.2.2 ho)
      clear HEN HEY HBA HBB HATA HATB HSA HSB
      obtain ⟨oa, hoa⟩ : ∃ o, rightE k a = o := ⟨_, rfl⟩
      obtain ⟨ob, hob⟩ : ∃ o, rightE k b = o := ⟨_, rfl⟩
      rw [hoa, hob] at ho
      rw [hoa] at HRA
      rw [hob] at HRB
      clear hoa hob
      go_wp2_with fail
      refine HC.out.mono ?_
      rintro e w3 ⟨rfl, k3⟩
      have HK3 := Lib.hid (HK2.out.1.trans_new k3 (fun _ _ x => x.elim))
      clear HK2 k3 HC
      go_wp2_with fail
      refine (HRA.out w3 HK3.out).mono ?_
      rintro e w4 ⟨rfl, k4⟩
      have HK4 := Lib.hid (HK3.out.trans_new k4 (fun _ _ x => x.elim))
      clear HK3 k4 HRA
      cases oa with
      | false =>
        clear ho
        go_wp2_with fail
        refine (HL.out w4).mono ?_
        rintro e w5 ⟨rfl, hb⟩
        go_wp2_with fail
        go_ret
        exact ⟨rfl, (HK4.out.below (Nat.le_refl _) (fun x hx hs => by omega)).trans (hb.mono HK4.out.size)⟩
      | true =>
        rw [Bool.true_and] at ho
        subst ho
        go_wp2_with fail
        refine (HRB.out w4 HK4.out).mono ?_
        rintro e w5 ⟨rfl, k5⟩
        have HK5 := Lib.hid (HK4.out.trans_new k5 (fun _ _ x => x.elim))
        clear HK4 k5 HRB
        go_wp2_with fail
        refine (HL.out w5).mono ?_
        rintro e w6 ⟨rfl, hb⟩
        go_wp2_with fail
        go_ret
        exact ⟨rfl, (HK5.out.below (Nat.le_refl _) (fun x hx hs => by omega)).trans (hb.mono HK5.out.size)⟩
    | true =>
      rw [Bool.and_eq_true] at ho
      obtain ⟨hoa, hob⟩ := ho
      have HC := Lib.hid (HEY.out w2 s1 s2 c1 c2 hc1 hc2 HK2.out.2.2.1 HK2.out.2.2.2 hoa hob)
      rw [hoa] at HRA
      rw [hob] at HRB
      have HOA := Lib.hid hoa
      have HOB := Lib.hid hob
      clear HEN HEY hoa hob
      obtain ⟨A, hA⟩ : ∃ A : Nat → Bool, (fun p : Nat => atE p.testBit a) = A := ⟨_, rfl⟩
      obtain ⟨B, hB⟩ : ∃ A : Nat → Bool, (fun p : Nat => atE p.testBit b) = A := ⟨_, rfl⟩
      have EA : Hid (∀ q : Nat, atE q.testBit a = A q) := fun q => by rw [← hA]
      have EB : Hid (∀ q : Nat, atE q.testBit b = B q) := fun q => by rw [← hB]
      rw [hA, hB] at HC
      clear hA hB
      go_wp2_with fail
      refine HC.out.mono ?_
      rintro e w3 ⟨same, q, rfl, h3⟩
      have HK3 : Hid (Keeps (fun x => w.heap.size ≤ x) w w3 ∧ Keeps (fun _ => False) w w3) := ⟨HK2.out.1.trans_new h3.out.1 (fun _ _ x => x.elim), HK2.out.2.1.trans h3.out.1⟩
      have HFA := Lib.hid h3.out.2
      clear HK2 h3 HC
      go_wp2_with fail
      refine (HRA.out w3 HK3.out.1).mono ?_
      rintro e w4 ⟨rfl, k4⟩
      have HK4 : Hid (Keeps (fun x => w.heap.size ≤ x) w w4 ∧ Keeps (fun _ => False) w w4) := ⟨HK3.out.1.trans_new k4 (fun _ _ x => x.elim), HK3.out.2.trans k4⟩
      clear HK3 k4 HRA
      go_wp2_with fail
      refine (HRB.out w4 HK4.out.1).mono ?_
      rintro e w5 ⟨rfl, k5⟩
      have HK5 : Hid (Keeps (fun x => w.heap.size ≤ x) w w5 ∧ Keeps (fun _ => False) w w5) := ⟨HK4.out.1.trans_new k5 (fun _ _ x => x.elim), HK4.out.2.trans k5⟩
      clear HK4 k5 HRB
      go_wp2_with fail
      refine (HNEW.out w5).mono ?_
      rintro e w6 ⟨db, Fp, rfl, hd⟩
      have HB6 : Hid (BK w w6 db k st0 0 0 Fp) := bk_new HK5.out.2 hd.out.1 hd.out.2.1 hd.out.2.2
      clear HK5 hd HNEW
      go_wp2_with fail
      refine (HSA.out _ HB6.out.kp).mono ?_
      rintro e w7 ⟨s7, c7, rfl, hc7, h7⟩
      have HB7 := Lib.hid (HB6.out.quiet h7.out.1)
      have HC7 := Lib.hid (HBA.out HB7.out hc7 (by omega) h7.out.2.1 (fun b off e hF => by have h1 := h7.out.2.2 b off e; have := HB6.out.bd.lt b hF; omega) HOA.out)
      clear HB6 h7 HSA HBA
      go_wp2_with fail
      refine HC7.out.mono ?_
      rintro e w8 ⟨y, st1, c8, F1, rfl, h8⟩
      have HB8 := Lib.hid h8.out.1
      have HY1 := Lib.hid h8.out.2.2
      clear HB7 HC7 h8
      go_wp2_with fail
      refine (HSB.out _ HB8.out.kp).mono ?_
      rintro e w9 ⟨s9, c9, rfl, hc9, h9⟩
      have HB9 := Lib.hid (HB8.out.quiet h9.out.1)
      have HC9 := Lib.hid (HBB.out HB9.out hc9 (by omega) h9.out.2.1 (fun b off e hF => by have h1 := h9.out.2.2 b off e; have := HB8.out.bd.lt b hF; omega) HOB.out)
      have HG8 := Lib.hid HB8.out.fine.wf.ok.good
      clear HB8 h9 HSB HBB
      go_wp2_with fail
      refine HC9.out.mono ?_
      rintro e wa ⟨z, st2, ca, F2, rfl, ha⟩
      have HBA := Lib.hid ha.out.1
      have HYZ : Hid (isN st2.n y = true ∧ isN st2.n z = true ∧ (∀ β, ev st2.L β y = atE β a) ∧ (∀ β, ev st2.L β z = atE β b)) := by
        have hx := ha.out.2.1
        have hy := HY1.out.1
        exact ⟨hx.is hy, ha.out.2.2.1, fun β => by rw [hx.ev HG8.out β (isN_iff.1 hy).2]; exact HY1.out.2.1 β, ha.out.2.2.2.1⟩
      clear HB9 HC9 ha HY1 HG8
      have HE1 : Hid ((∀ p, p < N → A p = B p) → y = z) := fun h => by
        refine once_bits HBA.out.fine.wf.ok.good k rfl HYZ.out.1 HYZ.out.2.1 (fun p hp => ?_)
        rw [HYZ.out.2.2.1, HYZ.out.2.2.2, EA.out, EB.out]
        exact h p (by rw [← HNP.out]; exact hp)
      have HE2 : Hid (∀ p, A p ≠ B p → y ≠ z) := fun p h e => by
        apply h
        rw [← EA.out, ← EB.out, ← HYZ.out.2.2.1, ← HYZ.out.2.2.2, e]
      clear HYZ
      have HB0 : Hid (∃ st c F u, BK w wa db k st u c F) := ⟨_, _, _, _, HBA.out⟩
      clear HBA
      go_wp2_with fail
      go_loopg [79] N (fun g t wx => ∃ p : Nat, p ≤ N ∧ g = N - p ∧ t = .int .u64 p ∧ Hid ((∃ st c F u, BK w wx db k st u c F) ∧ ∀ r, r < p → A r = B r))
      case atStart => exact ⟨0, Nat.zero_le _, rfl, rfl, HB0.out, fun r hr => by omega⟩
      case round =>
        clear HB0
        obtain ⟨p, hp, rfl, rfl, HJ⟩ := hrel
        obtain ⟨stJ, cJ, FJ, uJ, hJ⟩ := HJ.out.1
        have HJB := Lib.hid hJ
        have HJE := Lib.hid HJ.out.2
        clear hJ HJ
        by_cases hlt : p < N
        · have hpI : (p : Int) < (N : Int) := by omega
          have hwp : IntKind.u64.wrap ((p : Int) + 1) = (p : Int) + 1 := IntWalk.u64_in _ (by omega)
          have HC1 : Hid (Calls Try.prog 31 #[.int .u64 p, .slice ao n capa] wr fun e W2 => e = .returned (.bool (A p)) ∧ Keeps (fun _ => False) wr W2) := by
            have q := HATA.out wr p (by omega) HJB.out.kp HOA.out
            rw [EA.out] at q
            exact q
          have HC2 : Hid (∀ W', Keeps (fun _ => False) wr W' → Calls Try.prog 31 #[.int .u64 p, .slice bo m capb] W' fun e W2 => e = .returned (.bool (B p)) ∧ Keeps (fun _ => False) W' W2) := fun W' hk => by
            have q := HATB.out W' p (by omega) (HJB.out.kp.trans_new hk (fun _ _ x => x.elim)) HOB.out
            rw [EB.out] at q
            exact q
          obtain ⟨va, hva⟩ : ∃ v, A p = v := ⟨_, rfl⟩
          obtain ⟨vb, hvb⟩ : ∃ v, B p = v := ⟨_, rfl⟩
          rw [hva] at HC1
          rw [hvb] at HC2
          by_cases hv : va = vb
          · have HN : Hid (∀ r, r < p + 1 → A r = B r) := fun r hr => by
              by_cases e : r = p
              · rw [e, hva, hvb, hv]
              · exact HJE.out r (by omega)
            subst hv
            clear hva hvb
            go_wp2_with fail
            refine HC1.out.mono ?_
            rintro e wd ⟨rfl, kd⟩
            have HKD := Lib.hid kd
            clear kd HC1
            go_wp2_with fail
            refine (HC2.out _ HKD.out).mono ?_
            rintro e we ⟨rfl, ke⟩
            have HJ2 : Hid (∃ st c F u, BK w we db k st u c F) := ⟨_, _, _, _, (HJB.out.quiet HKD.out).quiet ke⟩
            clear ke HC2 HKD HJB
            go_wp2_with fail
            go_roundg (N - (p + 1))
            case measure => omega
            case rel => exact ⟨p + 1, by omega, rfl, by go_num, HJ2.out, HN.out⟩
          · have hdiff : A p ≠ B p := by rw [hva, hvb]; exact hv
            have hsq : same = false ∧ q = p := by
              rcases HFA.out with ⟨_, _, h⟩ | ⟨h1, h2, h3, h4⟩
              · exact absurd (h p hlt) hdiff
              · refine ⟨h1, ?_⟩
                rcases Nat.lt_trichotomy q p with h | h | h
                · exact absurd (HJE.out q h) h3
                · exact h
                · exact absurd (h4 p h) hdiff
            obtain ⟨rfl, rfl⟩ := hsq
            have hyz := HE2.out _ hdiff
            have hyz2 : (y != z) = true := bne_iff_ne.2 hyz
            have hyz3 : (y == z) = false := beq_eq_false_iff_ne.2 hyz
            have hvb2 : (va != vb) = true := bne_iff_ne.2 hv
            have hvb3 : (va == vb) = false := beq_eq_false_iff_ne.2 hv
            clear hva hvb hdiff HE1 HE2 HFA
            go_wp2_with fail
            refine HC1.out.mono ?_
            rintro e wd ⟨rfl, kd⟩
            have HKD := Lib.hid kd
            clear kd HC1
            go_wp2_with fail
            refine (HC2.out _ HKD.out).mono ?_
            rintro e we ⟨rfl, ke⟩
            have HJ2 := Lib.hid ((HJB.out.quiet HKD.out).quiet ke)
            clear ke HC2 HKD HJB
            go_wp2_with fail
            refine (HL.out we).mono ?_
            rintro e wf ⟨rfl, hb⟩
            go_wp2_with fail
            go_ret
            exact ⟨rfl, HJ2.out.below.trans (hb.mono HJ2.out.kp.size)⟩
        · have hpI : ¬ (p : Int) < (N : Int) := by omega
          have hpN : p = N := by omega
          have hall : ∀ r, r < N → A r = B r := fun r hr => HJE.out r (by omega)
          have hsq : same = true ∧ q = 0 := by
            rcases HFA.out with ⟨h1, h2, _⟩ | ⟨_, h2, h3, _⟩
            · exact ⟨h1, h2⟩
            · exact absurd (hall q h2) h3
          obtain ⟨rfl, rfl⟩ := hsq
          have hyz := HE1.out hall
          subst hyz
          clear hall HE1 HE2 HFA HJE
          go_wp2_with fail
          refine (HL.out wr).mono ?_
          rintro e wf ⟨rfl, hb⟩
          go_wp2_with fail
          go_ret
          exact ⟨rfl, HJB.out.below.trans (hb.mono HJB.out.kp.size)⟩
end Go.Proofs.Ytipcgjigkipcpaa
