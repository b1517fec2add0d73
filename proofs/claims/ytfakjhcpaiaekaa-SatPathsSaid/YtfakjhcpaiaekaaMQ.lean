/-
  A maker of any budget: what so many calls leave.
-/
import Derived.Test.YtfakjhcpaiaekaaMN
import Derived.Test.YtfakjhcpaiaekaaMO
import Derived.Test.YtfakjhcpaiaekaaIteNew
import Derived.Test.YtfakjhcpaiaekaaQuantState
import Derived.Test.YtfakjhcpaiaekaaSatPart
set_option linter.unusedVariables false
set_option linter.unusedSimpArgs false
set_option linter.unnecessarySimpa false
namespace Go.Proofs.Ytfakjhcpaiaekaa
open Go.ChangeShapes Go.WideShapes Go.ChangeAt Go.RowKit Go.Deep NodePlain SatPlain
/-- What at most so many calls leave. -/
structure GoneR (W : World) (d : Nat) (V B : Int) (st : St) (K : Nat) (calls : Int) (Fp : Nat → Prop) (u : Nat) (st' : St) (K' : Nat) (calls' : Int) (F' : Nat → Prop) (W' : World) : Prop where
  bd : Bd W' d V B st' calls' F'
  mv : Mv W W' Fp F'
  fine : Fine V B K' st'
  kc : K' ≤ K + u
  nn : st'.n ≤ st.n + u * 2 ^ V.toNat
  ext : Ext st.L st.n st'.L st'.n
  c0 : calls ≤ calls'
  c1 : calls' ≤ calls + (u : Int)
section
variable {W W1 W2 : World} {d : Nat} {V B : Int} {st s1 s2 : St} {K K1 K2 : Nat} {calls c1 c2 : Int} {Fp F1 F2 : Nat → Prop} {k : Nat}
theorem GoneR.none (h : Bd W d V B st calls Fp) (hf : Fine V B K st) : GoneR W d V B st K calls Fp 0 st K calls Fp W := ⟨h, Mv.refl _ _, hf, by omega, by omega, Ext.refl _ _, by omega, by omega⟩
theorem GoneR.trans {u1 u2 : Nat} (a : GoneR W d V B st K calls Fp u1 s1 K1 c1 F1 W1) (b : GoneR W1 d V B s1 K1 c1 F1 u2 s2 K2 c2 F2 W2) : GoneR W d V B st K calls Fp (u1 + u2) s2 K2 c2 F2 W2 := by
  have a1 := a.kc
  have a2 := a.nn
  have a3 := a.c0
  have a4 := a.c1
  have b1 := b.kc
  have b2 := b.nn
  have b3 := b.c0
  have b4 := b.c1
  exact ⟨b.bd, a.mv.trans b.mv, b.fine, by omega, by rw [Nat.add_mul]; omega, a.ext.trans b.ext, by omega, by omega⟩
theorem GoneR.more {u v : Nat} (a : GoneR W d V B st K calls Fp u s1 K1 c1 F1 W1) (h : u ≤ v) : GoneR W d V B st K calls Fp v s1 K1 c1 F1 W1 := by
  have a1 := a.kc
  have a2 := a.nn
  have a4 := a.c1
  have hm := Nat.mul_le_mul_right (2 ^ V.toNat) h
  exact ⟨a.bd, a.mv, a.fine, by omega, by omega, a.ext, a.c0, by omega⟩
theorem GoneR.quiet {u : Nat} (a : GoneR W d V B st K calls Fp u s1 K1 c1 F1 W1) (h : Keeps (fun _ => False) W1 W2) : GoneR W d V B st K calls Fp u s1 K1 c1 F1 W2 := by
  exact ⟨a.bd.quiet h, a.mv.trans (Mv.quiet h), a.fine, a.kc, a.nn, a.ext, a.c0, a.c1⟩
theorem AllR.gone {n : Nat} {E : (Nat → Bool) → Bool} {vo : Value} (a : AllR W d V B st K calls Fp k n E vo s1 F1 W1) : GoneR W d V B st K calls Fp (costF k) s1 (K + costF k) calls F1 W1 := ⟨a.bd, a.mv, a.fine, Nat.le_refl _, a.nn, a.ext, by omega, by omega⟩
theorem LeastR.gone {E : (Nat → Bool) → Bool} {x : Nat} (a : LeastR W d V B st K calls Fp k E x s1 F1 W1) : GoneR W d V B st K calls Fp (costF k) s1 (K + costF k) calls F1 W1 := ⟨a.bd, a.mv, a.fine, Nat.le_refl _, a.nn, a.ext, by omega, by omega⟩
/-- What each of these calls leaves. -/
def GPostG (W : World) (d : Nat) (V B : Int) (st : St) (K : Nat) (calls : Int) (Fp : Nat → Prop) (u : Nat) (S : (Nat → Bool) → Bool) (e : Ending) (W' : World) : Prop :=
  ∃ z st' K' calls' F', e = .returned (.int .i64 z) ∧ Hid (GoneR W d V B st K calls Fp u st' K' calls' F' W' ∧ Num st' z S)
theorem lit_gone (h : Bd W d (k : Int) B st calls Fp) (hk6 : k ≤ 6) (hf : Fine (k : Int) B K st) (hK : K ≤ 29000) (hc0 : 0 ≤ calls) (hc1 : calls ≤ 10000000) {v : Nat} (hv : v < k) (room : ((st.n + 2 ^ ((k : Int)).toNat : Nat) : Int) < B) :
    Calls Try.prog 40 #[.pointer (some ⟨d, 0, none⟩), .int .i64 v] W (GPostG W d k B st K calls Fp 1 (fun β => β v)) := by
  have hp : 1 ≤ 2 ^ ((k : Int)).toNat := Nat.one_le_two_pow
  obtain ⟨r, hr⟩ : ∃ r, opG st (makeM (k : Int) B st (v : Nat) 0 1) = r := ⟨_, rfl⟩
  have q := blit_spec h hf.wf (by omega) (v := (v : Int)) (by omega) (by omega) hc0 (by omega)
  rw [hr] at q
  obtain ⟨f1, i1, n1, x1, v1⟩ := lit_fine hf (k := k) (v := v) rfl hv (by omega) hr
  refine q.mono ?_
  rintro e W2 ⟨rfl, hx⟩
  obtain ⟨F', hb, hm⟩ := hx.out
  exact ⟨r.1, r.2, K + 1, calls + 1, F', rfl, ⟨hb, hm, f1, by omega, by omega, x1, by omega, by omega⟩, i1, v1⟩
theorem and_gone (h : Bd W d (k : Int) B st calls Fp) (hk6 : k ≤ 6) (hf : Fine (k : Int) B K st) (hK : K ≤ 29000) (hc0 : 0 ≤ calls) (hc1 : calls ≤ 10000000) {x y : Int} {X Y : (Nat → Bool) → Bool} (hx : Num st x X) (hy : Num st y Y) (room : ((st.n + 2 * 2 ^ ((k : Int)).toNat : Nat) : Int) < B) :
    Calls Try.prog 43 #[.pointer (some ⟨d, 0, none⟩), .slice (some ⟨W.heap.size, 0, none⟩) 2 2] (W.alloc (.cells #[.int .i64 x, .int .i64 y] 3)) (GPostG W d k B st K calls Fp 2 (fun β => X β && Y β)) := by
  refine (and_two h (by omega) (by omega) hf hK hx.is hy.is hc0 hc1 room).mono ?_
  rintro e W2 ⟨z, st', F', rfl, hm⟩
  have m := hm.out
  exact ⟨z, st', _, _, F', rfl, ⟨m.bd, m.mv, m.fine, m.kc, m.n, m.ext, by omega, by omega⟩, m.isx, fun β => by rw [m.ev, hx.ev, hy.ev]⟩
/-- Where Greatest's loop stands. -/
def GrG (W : World) (d : Nat) (V B : Int) (st : St) (K : Nat) (calls : Int) (Fp : Nat → Prop) (u k : Nat) (E : (Nat → Bool) → Bool) (f : Int) (j q : Nat) (W' : World) : Prop :=
  ∃ st' K' calls' F' T, GoneR W d V B st K calls Fp u st' K' calls' F' W' ∧ Num st' f T ∧ TopI k E T j q
set_option maxRecDepth 100000
set_option maxHeartbeats 3200000
theorem greatest_gen (h : Bd W d (k : Int) B st calls Fp) (hk6 : k ≤ 6) (hf : Fine (k : Int) B K st) (hK : K + 36 ≤ 28900) (hc0 : 0 ≤ calls) (hc1 : calls ≤ 9000000) (hn : st.n ≤ 900000) {f : Int} {E : (Nat → Bool) → Bool} (hN : Num st f E) (h0 : f ≠ 0) (hs : ∃ b, b < 2 ^ k ∧ E (Nat.testBit b) = true) (room : ((st.n + 36 * 2 ^ ((k : Int)).toNat : Nat) : Int) < B) :
    Calls Try.prog 17 #[.pointer (some ⟨d, 0, none⟩), .int .i64 f] W fun e W' => ∃ q : Nat, e = .returned (.tuple #[.int .u64 q, .bool true]) ∧ ∃ f', Hid (GrG W d k B st K calls Fp 36 k E f' 0 q W') := by
  have hfI := isN_iff.1 hN.is
  have hnv : (decide (f = 0) || !isN st.n f) = false := by rw [hN.is, decide_eq_false h0]; rfl
  have HN0 := Lib.hid (never_spec h (by omega) f (by omega))
  rw [hnv] at HN0
  have HVR : Hid (Calls Try.prog 50 #[.pointer (some ⟨d, 0, none⟩)] W fun e w' => e = .returned (.int .i64 (k : Int)) ∧ W = w') := bvars_spec h
  have hp8 := pow6 hk6
  obtain ⟨P, hP⟩ : ∃ P, 2 ^ ((k : Int)).toNat = P := ⟨_, rfl⟩
  rw [hP] at hp8 room
  have HS0 : Hid (GrG W d k B st K calls Fp (6 * (k - k)) k E f k 0 W) := ⟨st, K, calls, Fp, E, (GoneR.none h hf).more (Nat.zero_le _), hN, TopI.start hs⟩
  have hwk : IntKind.i64.wrap ((k : Int) - 1) = (k : Int) - 1 := IntWalk.i64_in _ (by omega)
  have HPP := Lib.hid hP
  -- a step's calls
  have HLIT : Hid (∀ {W' : World} {s' : St} {K' : Nat} {c' : Int} {F' : Nat → Prop} {u v : Nat}, GoneR W d k B st K calls Fp u s' K' c' F' W' → u + 1 ≤ 36 → v < k → Calls Try.prog 40 #[.pointer (some ⟨d, 0, none⟩), .int .i64 v] W' (GPostG W' d k B s' K' c' F' 1 (fun β => β v))) := by
    intro W' s' K' c' F' u v hg hu hv
    have a1 := hg.kc
    have a2 := hg.nn
    have a3 := hg.c0
    have a4 := hg.c1
    rw [hP] at a2
    have hm := Nat.mul_le_mul_right P (show u + 1 ≤ 36 from hu)
    rw [Nat.add_mul, Nat.one_mul] at hm
    exact lit_gone hg.bd hk6 hg.fine (by omega) (by omega) (by omega) hv (by rw [hP]; omega)
  have HAND : Hid (∀ {W' : World} {s' : St} {K' : Nat} {c' : Int} {F' : Nat → Prop} {u : Nat} {x y : Int} {X Y : (Nat → Bool) → Bool}, GoneR W d k B st K calls Fp u s' K' c' F' W' → u + 2 ≤ 36 → Num s' x X → Num s' y Y → Calls Try.prog 43 #[.pointer (some ⟨d, 0, none⟩), .slice (some ⟨W'.heap.size, 0, none⟩) 2 2] (W'.alloc (.cells #[.int .i64 x, .int .i64 y] 3)) (GPostG W' d k B s' K' c' F' 2 (fun β => X β && Y β))) := by
    intro W' s' K' c' F' u x y X Y hg hu hx hy
    have a1 := hg.kc
    have a2 := hg.nn
    have a3 := hg.c0
    have a4 := hg.c1
    rw [hP] at a2
    have hm := Nat.mul_le_mul_right P (show u + 2 ≤ 36 from hu)
    rw [Nat.add_mul] at hm
    exact and_gone hg.bd hk6 hg.fine (by omega) (by omega) (by omega) hx hy (by rw [hP]; omega)
  have HNV : Hid (∀ {W' : World} {s' : St} {K' : Nat} {c' : Int} {F' : Nat → Prop} {u : Nat} {z : Int} {Z : (Nat → Bool) → Bool}, GoneR W d k B st K calls Fp u s' K' c' F' W' → u ≤ 36 → Num s' z Z → Calls Try.prog 14 #[.pointer (some ⟨d, 0, none⟩), .int .i64 z] W' fun e w' => e = .returned (.bool (decide (z = 0))) ∧ W' = w') := by
    intro W' s' K' c' F' u z Z hg hu hz
    have a2 := hg.nn
    rw [hP] at a2
    have hm := Nat.mul_le_mul hu hp8
    have hzI := isN_iff.1 hz.is
    have q := never_spec hg.bd (by omega) z (by omega)
    rw [hz.is, Bool.not_true, Bool.or_false] at q
    exact q
  clear h hf hN hs hnv hn hp8
  go_enter Try.func17, Try.ntmps17
  go_wp2_with fail
  refine HN0.out.mono ?_
  rintro e w' ⟨rfl, rfl⟩
  go_wp2_with fail
  refine HVR.out.mono ?_
  rintro e w' ⟨rfl, rfl⟩
  clear HN0 HVR
  go_wp2_with fail
  go_loopg [1, 6, 7] k (fun g fv bt vv wx => ∃ (j q : Nat) (x : Int), j ≤ k ∧ j = g ∧ fv = .int .i64 x ∧ bt = .int .u64 ((2 ^ j * q : Nat) : Int) ∧ vv = .int .i64 ((j : Int) - 1) ∧ Hid (GrG W d k B st K calls Fp (6 * (k - j)) k E x j q wx))
  case atStart => exact ⟨k, 0, f, Nat.le_refl _, rfl, rfl, rfl, rfl, HS0.out⟩
  case round =>
    clear HS0
    obtain ⟨j, q, x, hj, rfl, rfl, rfl, rfl, HS⟩ := hrel
    rcases j with _ | i
    · have hneg : ¬ (0 : Int) ≤ ((0 : Nat) : Int) - 1 := by omega
      have HQ : Hid (2 ^ 0 * q = q) := by show _ = _; rw [Nat.pow_zero, Nat.one_mul]
      have HE : Hid (GrG W d k B st K calls Fp 36 k E x 0 q wr) := by
        obtain ⟨s1, k1, c1, F1, T, a, b, c⟩ := HS.out
        exact ⟨s1, k1, c1, F1, T, a.more (by omega), b, c⟩
      clear HS
      go_wp2_with fail
      go_ret2
      exact ⟨q, by rw [← HQ.out]; rfl, x, HE⟩
    · have hi0 : (0 : Int) ≤ (i : Int) := by omega
      have ei : ((i + 1 : Nat) : Int) - 1 = (i : Int) := by omega
      rw [ei]
      clear ei
      obtain ⟨st1, kc1, ca1, F1, T, g1, n1, t1⟩ := HS.out
      have HG1 := Lib.hid g1
      have HN1 := Lib.hid n1
      have HT1 := Lib.hid t1
      have HL1 := Lib.hid (HLIT.out g1 (by omega) (v := i) (by omega))
      clear HS g1 n1 t1
      go_wp2_with fail
      refine HL1.out.mono ?_
      rintro e w2 ⟨z, st2, kc2, ca2, F2, rfl, h2⟩
      have HG2 := Lib.hid (HG1.out.trans h2.out.1)
      have HX2 := Lib.hid (HN1.out.ext h2.out.1.ext HG1.out.fine.wf.ok.good)
      have HA2 := Lib.hid (HAND.out HG2.out (by omega) HX2.out h2.out.2)
      clear HL1 h2 HG1 HN1
      go_wp2_with fail
      refine HA2.out.mono ?_
      rintro e w3 ⟨z3, st3, kc3, ca3, F3, rfl, h3⟩
      have HG3 := Lib.hid (HG2.out.trans h3.out.1)
      have HZ3 := Lib.hid h3.out.2
      have HX3 := Lib.hid (HX2.out.ext h3.out.1.ext HG2.out.fine.wf.ok.good)
      have HNQ := Lib.hid (HNV.out HG3.out (by omega) HZ3.out)
      clear HA2 h3 HX2 HG2
      go_wp2_with fail
      refine HNQ.out.mono ?_
      rintro e w4 ⟨rfl, rfl⟩
      clear HNQ
      by_cases hz : z3 = 0
      · have hzd : decide (z3 = 0) = true := decide_eq_true hz
        rw [hzd]
        have hno : ¬ ∃ b, b < 2 ^ k ∧ (fun β : Nat → Bool => T β && β i) (Nat.testBit b) = true := fun ⟨b, hb, e⟩ => by
          have h1 := HZ3.out.ev (Nat.testBit b)
          have e2 : (T (Nat.testBit b) && Nat.testBit b i) = true := e
          rw [hz, ev_low _ _ 0 (by omega), e2] at h1
          exact absurd h1 (by decide)
        have HN : Hid (GrG W d k B st K calls Fp (6 * (k - i)) k E x i (2 * q) w3) := ⟨st3, kc3, ca3, F3, T, HG3.out.more (by omega), HX3.out, HT1.out.no (fun _ => rfl) hno⟩
        have HQ : Hid ((2 : Int) ^ (i + 1) * (q : Int) = ((2 ^ i * (2 * q) : Nat) : Int)) := by
          show _ = _
          rw [Int.natCast_mul, Int.natCast_pow, Int.natCast_mul, Int.pow_succ, Int.mul_assoc]; rfl
        clear hno HG3 HZ3 HX3 HT1 hz
        go_wp2_with fail
        go_roundg i
        case measure => omega
        case rel => exact ⟨i, 2 * q, x, by omega, rfl, rfl, by rw [← HQ.out], rfl, HN.out⟩
      · have hzd : decide (z3 = 0) = false := decide_eq_false hz
        rw [hzd]
        have HL4 := Lib.hid (HLIT.out HG3.out (by omega) (v := i) (by omega))
        go_wp2_with fail
        refine HL4.out.mono ?_
        rintro e w5 ⟨y, st5, kc5, ca5, F5, rfl, h5⟩
        have HG5 := Lib.hid (HG3.out.trans h5.out.1)
        have HX5 := Lib.hid (HX3.out.ext h5.out.1.ext HG3.out.fine.wf.ok.good)
        have HA5 := Lib.hid (HAND.out HG5.out (by omega) HX5.out h5.out.2)
        have HZ5 := Lib.hid (HZ3.out.ext h5.out.1.ext HG3.out.fine.wf.ok.good)
        clear HL4 h5 HX3 HG3 HZ3
        go_wp2_with fail
        refine HA5.out.mono ?_
        rintro e w6 ⟨y6, st6, kc6, ca6, F6, rfl, h6⟩
        have HG6 := Lib.hid (HG5.out.trans h6.out.1)
        have HZ6 := Lib.hid (HZ5.out.ext h6.out.1.ext HG5.out.fine.wf.ok.good)
        have hyz : z3 = y6 := HZ6.out.eq h6.out.2 HG6.out.fine.wf.ok.good (fun _ => rfl)
        obtain ⟨T', hT'⟩ : ∃ T' : (Nat → Bool) → Bool, (fun β => T β && β i) = T' := ⟨_, rfl⟩
        have hys : ∃ b, b < 2 ^ k ∧ T' (Nat.testBit b) = true := by
          refine Classical.byContradiction fun hn => hz ?_
          have hz0 : isN st6.n 0 = true := isN_iff.2 ⟨by omega, by omega⟩
          refine once_bits HG6.out.fine.wf.ok.good k rfl HZ6.out.is hz0 (fun b hb => ?_)
          rw [HZ6.out.ev, ev_low _ _ 0 (by omega)]
          cases e : (T (Nat.testBit b) && Nat.testBit b i) with
          | false => rfl
          | true => exact absurd ⟨b, hb, by rw [← hT']; exact e⟩ hn
        have HN : Hid (GrG W d k B st K calls Fp (6 * (k - i)) k E y6 i (2 * q + 1) w6) := ⟨st6, kc6, ca6, F6, T', HG6.out.more (by omega), hT' ▸ h6.out.2, HT1.out.yes (fun β => by rw [← hT']) hys⟩
        have hq64 : 2 ^ (i + 1) * q < 64 := by
          obtain ⟨b, hb, e⟩ := HT1.out.some
          have h1 := ((HT1.out.iff b hb).1 e).2
          have h2 : 2 ^ (i + 1) * q ≤ b := by rw [← h1]; exact Nat.mul_div_le _ _
          have h3 : 2 ^ k ≤ 64 := Nat.le_trans (Nat.pow_le_pow_right (by omega) hk6) (by decide)
          omega
        have hi64 : 2 ^ i ≤ 64 := Nat.le_trans (Nat.pow_le_pow_right (by omega) (show i ≤ 6 by omega)) (by decide)
        have hor := u64_or_nat (2 ^ (i + 1) * q) (2 ^ i) (by omega) (by omega)
        have hpl : 2 ^ (i + 1) * q ||| 2 ^ i = 2 ^ i * (2 * q + 1) := by
          rw [← Nat.two_pow_add_eq_or_of_lt (Nat.pow_lt_pow_right (by decide) (Nat.lt_succ_self i))]
          rw [Nat.pow_succ, Nat.mul_add, Nat.mul_one, Nat.mul_assoc]
        rw [hpl] at hor
        have hpw := pow_bit (v := i) (by omega)
        have HQ : Hid (bits BinOp.or IntKind.u64 ((2 : Int) ^ (i + 1) * (q : Int)) (IntKind.u64.wrap ((2 : Int) ^ i)) = ((2 ^ i * (2 * q + 1) : Nat) : Int)) := by
          show _ = _
          rw [hpw, ← hor, Int.natCast_mul, Int.natCast_pow]; rfl
        clear hys hT' hq64 hi64 hor hpl hpw
        clear HA5 h6 HZ5 HX5 HG5 HG6 HZ6 HT1
        go_wp2_with fail
        go_roundg i
        case measure => omega
        case rel => exact ⟨i, 2 * q + 1, y6, by omega, rfl, rfl, by rw [← HQ.out], rfl, HN.out⟩
end
end Go.Proofs.Ytfakjhcpaiaekaa
/-
  The document's example of counting is as it says.
-/
set_option linter.unusedVariables false
set_option linter.unusedSimpArgs false
set_option linter.unnecessarySimpa false
namespace Go.Proofs.Ytfakjhcpaiaekaa
open Go.ChangeShapes Go.WideShapes Go.ChangeAt Go.RowKit Go.Deep NodePlain SatPlain
theorem cAll_num {k : Nat} {st : St} {f : Int} {E : (Nat → Bool) → Bool} (h : Num st f E) : cAll st.L k f = cntV E k (fun _ => false) := cnt_congr k _ (fun γ _ => h.ev γ)
set_option maxRecDepth 100000 in
set_option maxHeartbeats 3200000 in
theorem lives18_any (w : World) : Calls Try.prog 18 #[] w fun e w' => e = .returned (.bool true) ∧ Below w.heap.size w w' := by
  have HN : Hid (Calls Try.prog 8 #[.int .i64 3, .int .i64 1000] w fun e W' => ∃ db Fp, e = .returned (.pointer (some ⟨db, 0, none⟩)) ∧ Hid (Bd W' db 3 1000 st0 0 Fp ∧ Keeps (fun _ => False) w W' ∧ ∀ x, Fp x → w.heap.size ≤ x)) := bnew_spec w 3 1000 3 1000 (by omega) (by omega) rfl ⟨by omega, rfl⟩
  have hp8 : 2 ^ (((3 : Nat) : Int)).toNat = 8 := by decide
  have f0 : Fine ((3 : Nat) : Int) 1000 0 st0 := ⟨wf0 3, by show ((0 : Nat) : Int) ≤ 1000; omega, fun e => by cases e⟩
  have HLIT : Hid (∀ (w1 : World) (db : Nat) (Fp : Nat → Prop), Bd w1 db ((3 : Nat) : Int) 1000 st0 0 Fp → Calls Try.prog 40 #[.pointer (some ⟨db, 0, none⟩), .int .i64 1] w1 (GPostG w1 db ((3 : Nat) : Int) 1000 st0 0 0 Fp 1 (fun β => β 1))) := fun w1 db Fp h => lit_gone (v := 1) h (by omega) f0 (by omega) (by omega) (by omega) (by omega) (by rw [hp8]; have : st0.n = 0 := rfl; omega)
  have hc3 : costF 3 = 14 := rfl
  have HLEAST : Hid (∀ (w0 w1 : World) (db : Nat) (Fp F : Nat → Prop) (st : St) (K : Nat) (c : Int) (f : Int), GoneR w0 db ((3 : Nat) : Int) 1000 st0 0 0 Fp 1 st K c F w1 → Num st f (fun β => β 1) → Calls Try.prog 16 #[.pointer (some ⟨db, 0, none⟩), .int .i64 f] w1 fun e W' => ∃ st' K' F', e = .returned (.tuple #[.int .u64 2, .bool true]) ∧ Hid (GoneR w1 db ((3 : Nat) : Int) 1000 st K c F 14 st' K' c F' W')) := by
    intro w0 w1 db Fp F st K c f hg hN
    have a1 := hg.kc
    have a2 := hg.nn
    rw [hp8] at a2
    have n0 : st0.n = 0 := rfl
    have hne : f ≠ 0 := fun e => by
      have h1 := hN.ev (fun _ => true)
      rw [e, ev_low _ _ 0 (by omega)] at h1
      exact absurd h1 (by decide)
    refine (least_spec hg.bd (by omega) hg.fine (by rw [hc3]; omega) hN hne (by rw [hp8, hc3]; omega)).mono ?_
    rintro e W' ⟨x, st', F', rfl, hr⟩
    have hh : x = 2 := by
      have h1 := hr.out.head
      have h2 : (onL (fun β : Nat → Bool => β 1) 0 (2 ^ 3)).head? = some 2 := by decide
      rw [h2] at h1
      exact (Option.some.inj h1).symm
    subst hh
    exact ⟨st', _, F', rfl, hr.out.gone⟩
  have HGREAT : Hid (∀ (w0 w1 : World) (db : Nat) (Fp F : Nat → Prop) (st : St) (K : Nat) (c : Int) (f : Int), GoneR w0 db ((3 : Nat) : Int) 1000 st0 0 0 Fp 15 st K c F w1 → Num st f (fun β => β 1) → Calls Try.prog 17 #[.pointer (some ⟨db, 0, none⟩), .int .i64 f] w1 fun e W' => ∃ st' K' c' F', e = .returned (.tuple #[.int .u64 7, .bool true]) ∧ Hid (GoneR w1 db ((3 : Nat) : Int) 1000 st K c F 36 st' K' c' F' W')) := by
    intro w0 w1 db Fp F st K c f hg hN
    have a1 := hg.kc
    have a2 := hg.nn
    have a3 := hg.c0
    have a4 := hg.c1
    rw [hp8] at a2
    have n0 : st0.n = 0 := rfl
    have hne : f ≠ 0 := fun e => by
      have h1 := hN.ev (fun _ => true)
      rw [e, ev_low _ _ 0 (by omega)] at h1
      exact absurd h1 (by decide)
    refine (greatest_gen hg.bd (by omega) hg.fine (by omega) (by omega) (by omega) (by omega) hN hne ⟨7, by decide, by decide⟩ (by rw [hp8]; omega)).mono ?_
    rintro e W' ⟨q, rfl, f', hr⟩
    obtain ⟨st', K', c', F', T, g, _, ht⟩ := hr.out
    have hd := ht.done
    have hq : q = 7 := by
      have h1 := hd.1
      have h2 := hd.2.2 7 (by decide) (by decide)
      omega
    subst hq
    exact ⟨st', K', c', F', rfl, g⟩
  have HCOUNT : Hid (∀ (w0 w1 : World) (db : Nat) (Fp F : Nat → Prop) (st : St) (K : Nat) (c : Int) (f : Int), GoneR w0 db ((3 : Nat) : Int) 1000 st0 0 0 Fp 51 st K c F w1 → Num st f (fun β => β 1) → Calls Try.prog 11 #[.pointer (some ⟨db, 0, none⟩), .int .i64 f] w1 fun e W' => e = .returned (.int .u64 4) ∧ Hid (Keeps (fun _ => False) w1 W')) := by
    intro w0 w1 db Fp F st K c f hg hN
    have a2 := hg.nn
    rw [hp8] at a2
    have n0 : st0.n = 0 := rfl
    refine (scount_spec hg.bd (by omega) hg.fine.wf.ok.good (by omega) hN.is).mono ?_
    rintro e W' ⟨rfl, hk⟩
    refine ⟨?_, hk⟩
    rw [cAll_num hN]
    have h2 : cntV (fun β : Nat → Bool => β 1) 3 (fun _ => false) = 4 := by decide
    rw [h2]
    rfl
  clear f0 hp8 hc3
  go_enter Try.func18, Try.ntmps18
  go_wp2_with fail
  refine HN.out.mono ?_
  rintro e w1 ⟨db, Fp, rfl, h1⟩
  have HL := Lib.hid (HLIT.out w1 db Fp h1.out.1)
  clear HLIT HN
  go_wp2_with fail
  refine HL.out.mono ?_
  rintro e w2 ⟨f, s2, K2, c2, F2, rfl, h2⟩
  have HS := Lib.hid (HLEAST.out w1 w2 db Fp F2 s2 K2 c2 f h2.out.1 h2.out.2)
  clear HL HLEAST
  go_wp2_with fail
  refine HS.out.mono ?_
  rintro e w3 ⟨s3, K3, F3, rfl, h3⟩
  have HG3 := Lib.hid (h2.out.1.trans h3.out)
  have HN3 := Lib.hid (h2.out.2.ext h3.out.ext h2.out.1.fine.wf.ok.good)
  have HT := Lib.hid (HGREAT.out w1 w3 db Fp F3 s3 K3 c2 f HG3.out HN3.out)
  clear HS HGREAT h2 h3
  go_wp2_with fail
  refine HT.out.mono ?_
  rintro e w4 ⟨s4, K4, c4, F4, rfl, h4⟩
  have HG4 := Lib.hid (HG3.out.trans h4.out)
  have HN4 := Lib.hid (HN3.out.ext h4.out.ext HG3.out.fine.wf.ok.good)
  have HC := Lib.hid (HCOUNT.out w1 w4 db Fp F4 s4 K4 c4 f HG4.out HN4.out)
  clear HT HCOUNT h4 HG3 HN3 HN4
  go_wp2_with fail
  refine HC.out.mono ?_
  rintro e w5 ⟨rfl, hk5⟩
  have HP : Hid (Below w.heap.size w w5) := by
    have hb1 : Below w.heap.size w w1 := h1.out.2.1.below (Nat.le_refl _) (fun _ _ x => x)
    have hk : Keeps Fp w1 w5 := HG4.out.mv.keeps.trans (hk5.out.mono (fun _ _ x => x.elim))
    exact hb1.trans (hk.below hb1.size (fun x hx hf => by have := h1.out.2.2 x hf; omega))
  clear HC HG4 h1 hk5
  go_wp2_with fail
  go_ret
  exact ⟨rfl, HP⟩
end Go.Proofs.Ytfakjhcpaiaekaa
/-
  And of two diagrams of a maker behind a play.
-/
set_option linter.unusedVariables false
set_option linter.unusedSimpArgs false
set_option linter.unnecessarySimpa false
namespace Go.Proofs.Ytfakjhcpaiaekaa
open Go.ChangeShapes Go.WideShapes Go.ChangeAt Go.RowKit Go.Deep NodePlain
section
variable {w W W' : World} {k : Nat} {s : PlS} {u c : Nat} {d lb : Nat} {st : St} {kc : Nat} {calls : Int} {F : Nat → Prop}
set_option maxRecDepth 100000
set_option maxHeartbeats 1600000
theorem MkS.and2 (h : MkS w W k s u c d lb st kc calls F) (hk6 : k ≤ 6) (hu : u ≤ 900000) (hc : c ≤ 20000) {x y : Int} {X Y : (Nat → Bool) → Bool} (hx : Num st x X) (hy : Num st y Y) :
    Calls Try.prog 43 #[.pointer (some ⟨d, 0, none⟩), .slice (some ⟨W.heap.size, 0, none⟩) 2 2] (W.alloc (.cells #[.int .i64 x, .int .i64 y] 3)) (QPost w k s u c 2 d lb st (fun β => X β && Y β)) := by
  have hn := h.n
  have hk := h.kc
  have hc0 := h.c0
  have hc1 := h.c1
  have hp := pow6 hk6
  refine (and_two h.bd (by omega) (by omega) h.fine (by omega) hx.is hy.is h.c0 (by omega) (by omega)).mono ?_
  rintro e W2 ⟨z, st', F', rfl, hm⟩
  exact ⟨z, st', _, _, F', rfl, h.step hk6 hm.out (by omega) (by omega), hm.out.ext, hm.out.isx, fun β => by rw [hm.out.ev, hx.ev, hy.ev]⟩
end
end Go.Proofs.Ytfakjhcpaiaekaa
