/-
  Some and all values of variables; a diagram in a variable's place.
-/
import Derived.Test.YtfakjhcpaiaekaaQuantRestrict
import Derived.Test.YtfakjhcpaiaekaaExprPlain
import Derived.Test.YtfakjhcpaiaekaaExprMem
import Derived.Test.YtfakjhcpaiaekaaOrdRight
set_option linter.unusedVariables false
set_option linter.unusedSimpArgs false
set_option linter.unnecessarySimpa false
namespace Go.Proofs.Ytfakjhcpaiaekaa
open Go.ChangeShapes Go.WideShapes Go.ChangeAt Go.RowKit Go.Deep NodePlain
/-- Some value, or all, of a variable. -/
def eachOne (or : Bool) (E : (Nat → Bool) → Bool) (v : Int) : (Nat → Bool) → Bool := fun β => if or then E (putB β v false) || E (putB β v true) else E (putB β v false) && E (putB β v true)
def eachEv (or : Bool) (E : (Nat → Bool) → Bool) (l : List Int) : (Nat → Bool) → Bool := l.foldl (eachOne or) E
theorem Mk.trans {W W1 W2 : World} {db : Nat} {V B : Int} {st st1 st2 : St} {K u K1 u1 K2 : Nat} {Fp F1 F2 : Nat → Prop} {x y : Int} {c1 c2 : Int} {S S' : (Nat → Bool) → Bool} (a : Mk W db V B st K u Fp x st1 K1 F1 c1 W1 S) (b : Mk W1 db V B st1 K1 u1 F1 y st2 K2 F2 c2 W2 S') : Mk W db V B st K (u + u1) Fp y st2 K2 F2 c2 W2 S' :=
  ⟨b.bd, a.mv.trans b.mv, b.fine, by have := a.kc; have := b.kc; omega, by have := a.n; have := b.n; rw [Nat.add_mul]; omega, a.ext.trans b.ext, b.isx, b.ev⟩
theorem Mk.before {W W1 W2 : World} {db : Nat} {V B : Int} {st st1 : St} {K u K1 : Nat} {Fp F1 : Nat → Prop} {x : Int} {c1 : Int} {S : (Nat → Bool) → Bool} (hk : Keeps (fun _ => False) W W1) (a : Mk W1 db V B st K u Fp x st1 K1 F1 c1 W2 S) : Mk W db V B st K u Fp x st1 K1 F1 c1 W2 S :=
  ⟨a.bd, (Mv.quiet hk).trans a.mv, a.fine, a.kc, a.n, a.ext, a.isx, a.ev⟩
theorem Mk.quiet {W W1 W2 : World} {db : Nat} {V B : Int} {st st1 : St} {K u K1 : Nat} {Fp F1 : Nat → Prop} {x : Int} {c1 : Int} {S : (Nat → Bool) → Bool} (a : Mk W db V B st K u Fp x st1 K1 F1 c1 W1 S) (hk : Keeps (fun _ => False) W1 W2) : Mk W db V B st K u Fp x st1 K1 F1 c1 W2 S :=
  ⟨a.bd.quiet hk, a.mv.trans (Mv.quiet hk), a.fine, a.kc, a.n, a.ext, a.isx, a.ev⟩
theorem Mk.congr {W W1 : World} {db : Nat} {V B : Int} {st st1 : St} {K u K1 : Nat} {Fp F1 : Nat → Prop} {x : Int} {c1 : Int} {S S' : (Nat → Bool) → Bool} (a : Mk W db V B st K u Fp x st1 K1 F1 c1 W1 S) (h : ∀ β, S β = S' β) : Mk W db V B st K u Fp x st1 K1 F1 c1 W1 S' :=
  ⟨a.bd, a.mv, a.fine, a.kc, a.n, a.ext, a.isx, fun β => (a.ev β).trans (h β)⟩
theorem mk_refl {W : World} {db : Nat} {V B : Int} {st : St} {K : Nat} {Fp : Nat → Prop} {f : Int} {c : Int} (h : Bd W db V B st c Fp) (hf : Fine V B K st) (hi : isN st.n f = true) : Mk W db V B st K 0 Fp f st K Fp c W (fun β => ev st.L β f) :=
  ⟨h, Mv.refl _ _, hf, Nat.le_refl _, by omega, Ext.refl _ _, hi, fun β => rfl⟩
section
variable {W : World} {db : Nat} {V B : Int} {st : St} {calls : Int} {Fp : Nat → Prop} {K : Nat}
set_option maxRecDepth 100000
set_option maxHeartbeats 3200000
/-- Or of two diagrams at a new row. -/
theorem or_two {W' : World} (h : Bd W' db V B st calls Fp) (hV0 : 0 ≤ V) (hV : V ≤ 8) (hf : Fine V B K st) (hK : K ≤ 29000) {x y : Int} (hx : isN st.n x = true) (hy : isN st.n y = true) (hc0 : 0 ≤ calls) (hc1 : calls ≤ 10000000) (room : ((st.n + 2 * 2 ^ V.toNat : Nat) : Int) < B) :
    Calls Try.prog 44 #[.pointer (some ⟨db, 0, none⟩), .slice (some ⟨W'.heap.size, 0, none⟩) 2 2] (W'.alloc (.cells #[.int .i64 x, .int .i64 y] 3)) fun e W2 => ∃ z st' F, e = .returned (.int .i64 z) ∧ Hid (Mk W' db V B st K 2 Fp z st' (K + 2) F (calls + 2) W2 (fun β => ev st.L β x || ev st.L β y)) := by
  have hk2 : Keeps (fun _ => False) W' (W'.alloc (.cells #[.int .i64 x, .int .i64 y] 3)) := (Keeps.refl _ _).alloc _
  have hp := pow_V hV
  have b1 := bld1_ok (V := V) (B := B) (kc := K) (st := st) hV0 hV hf (by omega) (F := fun j => if j = 0 then x else y) (fun j => by show isN st.n (if j = 0 then x else y) = true; split; exact hx; exact hy) (i := 2) (s := ⟨4, 0, 1⟩) (.inr (.inr (.inl ⟨.inr (.inl rfl), by simp only []; omega, by simp only []; omega, by simp only []; omega, by simp only []; omega⟩)))
  have q := bor_spec hV0 hV (h.quiet hk2) hf.wf (by omega) (l := [x, y]) (by intro z hz; simp only [List.mem_cons, List.not_mem_nil, or_false] at hz; rcases hz with rfl | rfl; exact hx; exact hy) (n := 2) rfl (Nat.le_refl 2) (by omega) (numRow2 (MapKept.heap_alloc W' _).1) (fun b e hF => by simp only [Option.some.injEq, Addr.mk.injEq, and_true] at e; have := h.lt b hF; omega) hc0 (by omega)
  obtain ⟨r, hr⟩ : ∃ r, opG st (orT V B [x, y] (0, st)) = r := ⟨_, rfl⟩
  have hb1 : bld1 V B (fun j => if j = 0 then x else y) st ⟨4, 0, 1⟩ = r := hr
  rw [hr] at q
  rw [hb1] at b1
  refine q.mono ?_
  rintro e W2 ⟨rfl, hq⟩
  obtain ⟨F, hb, hm⟩ := hq.out
  have bn := b1.n
  exact ⟨r.1, r.2, F, rfl, hb, (Mv.quiet hk2).trans hm, b1.fine, Nat.le_refl _, by omega, b1.ext, b1.isr, b1.ev⟩
theorem each_or (h : Bd W db V B st calls Fp) (hV0 : 0 ≤ V) (hV : V ≤ 8) (hf : Fine V B K st) {f : Int} (hi : isN st.n f = true) {v : Value} {l : List Int} {n : Nat} (hl : l.length = n) (hr : ReadsI W v l) (hrf : ∀ g off n cap, v = .slice (some ⟨g, off, none⟩) n cap → 0 < l.length → ¬ Fp g) (hK : K + 4 * n ≤ 28000) (hn : n ≤ 100) (hc0 : 0 ≤ calls) (hc1 : calls ≤ 1000000) (room : ((st.n + 4 * n * 2 ^ V.toNat : Nat) : Int) < B) :
    Calls Try.prog 52 #[.pointer (some ⟨db, 0, none⟩), .int .i64 f, v, .func (.func 44) #[.pointer (some ⟨db, 0, none⟩)] #[]] W fun e W' => ∃ x st' F, e = .returned (.int .i64 x) ∧ Hid (Mk W db V B st K (4 * n) Fp x st' (K + 4 * n) F (calls + ((2 * n : Nat) : Int)) W' (eachEv true (fun β => ev st.L β f) l)) := by
  have hn6 : st.n ≤ 8000000 := by have := hf.wf.n; omega
  have hfI := isN_iff.1 hi
  have HI : Hid (Calls Try.prog 28 #[.pointer (some ⟨db, 0, none⟩), .int .i64 f] W fun e w' => e = .returned (.bool true) ∧ W = w') := (bis_spec h (by omega) f (by omega)).mono fun e w' hh => ⟨by rw [hh.1, hi], hh.2⟩
  have HST : Hid (∃ x st' F, x = f ∧ Mk W db V B st K (4 * 0) Fp x st' (K + 4 * 0) F (calls + ((2 * 0 : Nat) : Int)) W (eachEv true (fun β => ev st.L β f) (l.take 0))) := ⟨f, st, Fp, rfl, by
    have q := mk_refl h hf hi
    simp only [Nat.mul_zero, Nat.add_zero]
    rw [show calls + ((0 : Nat) : Int) = calls by omega]
    exact q⟩
  obtain ⟨ao, cap, rfl, hcap, hrow⟩ := hr
  rw [hl] at hcap hrow hrf ⊢
  have HROW := Lib.hid hrow
  have HRF := Lib.hid hrf
  have HL := Lib.hid hl
  have HRM := Lib.hid room
  clear h hf hi hrow hrf hl room hn6 hfI
  go_enter Try.func52, Try.ntmps52
  go_wp2_with fail
  refine HI.out.mono ?_
  rintro e w' ⟨rfl, rfl⟩
  go_wp2_with fail
  go_loopg [1, 17] n (fun g fx t wy => ∃ (j : Nat) (x : Int), j ≤ n ∧ g = n - j ∧ fx = .int .i64 x ∧ t = .int .i64 j ∧ Hid (∃ st' F, Mk W db V B st K (4 * j) Fp x st' (K + 4 * j) F (calls + ((2 * j : Nat) : Int)) wy (eachEv true (fun β => ev st.L β f) (l.take j))))
  case atStart =>
    obtain ⟨x, st', F, rfl, q⟩ := HST.out
    exact ⟨0, _, Nat.zero_le _, rfl, rfl, rfl, st', F, q⟩
  case round =>
    clear HST HI
    obtain ⟨j, x, hj, rfl, rfl, rfl, HJ⟩ := hrel
    obtain ⟨s0, F0, hJ⟩ := HJ.out
    clear HJ
    by_cases hlt : j < n
    · have hjI : (j : Int) < (n : Int) := by omega
      have hwj : IntKind.i64.wrap ((j : Int) + 1) = (j : Int) + 1 := IntWalk.i64_in _ (by omega)
      obtain ⟨g, off, rfl, hg, hcc⟩ := HROW.out (by omega)
      obtain ⟨v, hv⟩ : ∃ v, l[j]? = some v := ⟨_, List.getElem?_eq_getElem (by have := HL.out; omega)⟩
      have hgF := HRF.out g off n cap rfl (by omega)
      have c := (hJ.mv.keeps.cell (p := ⟨g, off + j, none⟩) hg hgF).trans (hcc j v hv)
      have hjc : j < cap := by omega
      have hgw : g < wr.heap.size := Nat.lt_of_lt_of_le hg hJ.mv.keeps.size
      have hroom := HRM.out
      have hjn := hJ.n
      have hmul : 4 * j * 2 ^ V.toNat + 4 * 2 ^ V.toNat ≤ 4 * n * 2 ^ V.toNat := by rw [← Nat.add_mul]; exact Nat.mul_le_mul_right _ (by omega)
      have hp1 : (4 * j + 1) * 2 ^ V.toNat = 4 * j * 2 ^ V.toNat + 2 ^ V.toNat := by rw [Nat.add_mul, Nat.one_mul]
      have hp2 : (4 * j + 1 + 1) * 2 ^ V.toNat = 4 * j * 2 ^ V.toNat + 2 ^ V.toNat + 2 ^ V.toNat := by rw [Nat.add_mul, Nat.add_mul, Nat.one_mul]
      have hp0 : 1 ≤ 2 ^ V.toNat := Nat.one_le_two_pow
      have HPP := Lib.hid (And.intro hroom (And.intro hjn (And.intro hmul (And.intro hp1 (And.intro hp2 hp0)))))
      have H1 := Lib.hid (restrict_spec hJ.bd hV0 hV hJ.fine (by omega) hJ.isx v false (by omega))
      have HJJ := Lib.hid hJ
      have HVV := Lib.hid hv
      clear hJ hcc hgF hv hroom hjn hmul hp1 hp2 hp0
      go_wp2_with fail
      refine H1.out.mono ?_
      rintro e w1 ⟨a, s1, F1, rfl, h1⟩
      have H1M := Lib.hid (HJJ.out.trans h1.out)
      have h1n := H1M.out.n
      obtain ⟨hroom, hjn, hmul, hp1, hp2, hp0⟩ := HPP.out
      have H2 := Lib.hid (restrict_spec h1.out.bd hV0 hV h1.out.fine (by omega) (h1.out.ext.is HJJ.out.isx) v true (by omega))
      have HA1 := Lib.hid h1.out
      clear H1 h1 hroom hjn hmul hp1 hp2 hp0 h1n
      go_wp2_with fail
      refine H2.out.mono ?_
      rintro e w2 ⟨b, s2, F2, rfl, h2⟩
      have H2M := Lib.hid (H1M.out.trans h2.out)
      have h2n := H2M.out.n
      obtain ⟨hroom, hjn, hmul, hp1, hp2, hp0⟩ := HPP.out
      have H3 := Lib.hid (or_two h2.out.bd hV0 hV h2.out.fine (by omega) (h2.out.ext.is HA1.out.isx) h2.out.isx (by omega) (by omega) (by omega))
      have HA2 := Lib.hid h2.out
      clear H2 h2 hroom hjn hmul hp1 hp2 hp0 h2n
      go_wp2_with fail
      refine H3.out.mono ?_
      rintro e w3 ⟨z, s3, F3, rfl, h3⟩
      have HN : Hid (∃ st' F, Mk W db V B st K (4 * (j + 1)) Fp z st' (K + 4 * (j + 1)) F (calls + ((2 * (j + 1) : Nat) : Int)) w3 (eachEv true (fun β => ev st.L β f) (l.take (j + 1)))) := by
        have q := H2M.out.trans h3.out
        refine ⟨s3, F3, ?_⟩
        rw [show 4 * (j + 1) = 4 * j + 1 + 1 + 2 by omega, show K + (4 * j + 1 + 1 + 2) = K + 4 * j + 1 + 1 + 2 by omega, show calls + ((2 * (j + 1) : Nat) : Int) = calls + ((2 * j : Nat) : Int) + 2 by omega]
        refine q.congr fun β => ?_
        rw [List.take_add_one, HVV.out, Option.toList_some]
        unfold eachEv
        rw [List.foldl_append]
        show _ = eachOne true (eachEv true (fun β => ev st.L β f) (l.take j)) v β
        unfold eachOne
        rw [HA2.out.ext.ev HA1.out.fine.wf.ok.good _ (isN_iff.1 HA1.out.isx).2, HA1.out.ev, HA2.out.ev, HA1.out.ext.ev HJJ.out.fine.wf.ok.good _ (isN_iff.1 HJJ.out.isx).2, HJJ.out.ev, HJJ.out.ev]
        rfl
      clear H3 h3 H2M HA1 HA2 H1M HJJ HVV c HPP
      go_wp2_with fail
      go_roundg (n - (j + 1))
      case measure => omega
      case rel => exact ⟨j + 1, z, by omega, rfl, rfl, by go_num, HN⟩
    · have hjI : ¬ (j : Int) < (n : Int) := by omega
      obtain rfl : j = n := by omega
      have hq := hJ
      rw [List.take_of_length_le (by have := HL.out; omega)] at hq
      have HQ := Lib.hid hq
      clear hJ hq
      go_wp2_with fail
      go_ret
      first | exact ⟨x, s0, F0, rfl, HQ⟩ | exact ⟨x, rfl, s0, F0, HQ⟩
theorem some_spec (h : Bd W db V B st calls Fp) (hV0 : 0 ≤ V) (hV : V ≤ 8) (hf : Fine V B K st) {f : Int} (hi : isN st.n f = true) {v : Value} {l : List Int} {n : Nat} (hl : l.length = n) (hr : ReadsI W v l) (hrf : ∀ g off n cap, v = .slice (some ⟨g, off, none⟩) n cap → 0 < l.length → ¬ Fp g) (hK : K + 4 * n ≤ 28000) (hn : n ≤ 100) (hc0 : 0 ≤ calls) (hc1 : calls ≤ 1000000) (room : ((st.n + 4 * n * 2 ^ V.toNat : Nat) : Int) < B) :
    Calls Try.prog 21 #[.pointer (some ⟨db, 0, none⟩), .int .i64 f, v] W fun e W' => ∃ x st' F, e = .returned (.int .i64 x) ∧ Hid (Mk W db V B st K (4 * n) Fp x st' (K + 4 * n) F (calls + ((2 * n : Nat) : Int)) W' (eachEv true (fun β => ev st.L β f) l)) := by
  have HC := Lib.hid (each_or h hV0 hV hf hi hl hr hrf hK hn hc0 hc1 room)
  obtain ⟨ao, cap, rfl, hcap, hrow⟩ := hr
  clear h hf hi hrow hrf hl room
  go_enter Try.func21, Try.ntmps21
  go_wp2_with fail
  refine HC.out.mono ?_
  rintro e w1 ⟨x, s1, F1, rfl, h1⟩
  go_wp2_with fail
  go_ret
  exact ⟨x, s1, F1, rfl, h1⟩
/-- And of two diagrams at a new row. -/
theorem and_two {W' : World} (h : Bd W' db V B st calls Fp) (hV0 : 0 ≤ V) (hV : V ≤ 8) (hf : Fine V B K st) (hK : K ≤ 29000) {x y : Int} (hx : isN st.n x = true) (hy : isN st.n y = true) (hc0 : 0 ≤ calls) (hc1 : calls ≤ 10000000) (room : ((st.n + 2 * 2 ^ V.toNat : Nat) : Int) < B) :
    Calls Try.prog 43 #[.pointer (some ⟨db, 0, none⟩), .slice (some ⟨W'.heap.size, 0, none⟩) 2 2] (W'.alloc (.cells #[.int .i64 x, .int .i64 y] 3)) fun e W2 => ∃ z st' F, e = .returned (.int .i64 z) ∧ Hid (Mk W' db V B st K 2 Fp z st' (K + 2) F (calls + 2) W2 (fun β => ev st.L β x && ev st.L β y)) := by
  have hk2 : Keeps (fun _ => False) W' (W'.alloc (.cells #[.int .i64 x, .int .i64 y] 3)) := (Keeps.refl _ _).alloc _
  have hp := pow_V hV
  have b1 := bld1_ok (V := V) (B := B) (kc := K) (st := st) hV0 hV hf (by omega) (F := fun j => if j = 0 then x else y) (fun j => by show isN st.n (if j = 0 then x else y) = true; split; exact hx; exact hy) (i := 2) (s := ⟨3, 0, 1⟩) (.inr (.inr (.inl ⟨.inl rfl, by simp only []; omega, by simp only []; omega, by simp only []; omega, by simp only []; omega⟩)))
  have q := band_spec hV0 hV (h.quiet hk2) hf.wf (by omega) (l := [x, y]) (by intro z hz; simp only [List.mem_cons, List.not_mem_nil, or_false] at hz; rcases hz with rfl | rfl; exact hx; exact hy) (n := 2) rfl (Nat.le_refl 2) (by omega) (numRow2 (MapKept.heap_alloc W' _).1) (fun b e hF => by simp only [Option.some.injEq, Addr.mk.injEq, and_true] at e; have := h.lt b hF; omega) hc0 (by omega)
  obtain ⟨r, hr⟩ : ∃ r, opG st (andT V B [x, y] (1, st)) = r := ⟨_, rfl⟩
  have hb1 : bld1 V B (fun j => if j = 0 then x else y) st ⟨3, 0, 1⟩ = r := hr
  rw [hr] at q
  rw [hb1] at b1
  refine q.mono ?_
  rintro e W2 ⟨rfl, hq⟩
  obtain ⟨F, hb, hm⟩ := hq.out
  have bn := b1.n
  exact ⟨r.1, r.2, F, rfl, hb, (Mv.quiet hk2).trans hm, b1.fine, Nat.le_refl _, by omega, b1.ext, b1.isr, b1.ev⟩
theorem each_and (h : Bd W db V B st calls Fp) (hV0 : 0 ≤ V) (hV : V ≤ 8) (hf : Fine V B K st) {f : Int} (hi : isN st.n f = true) {v : Value} {l : List Int} {n : Nat} (hl : l.length = n) (hr : ReadsI W v l) (hrf : ∀ g off n cap, v = .slice (some ⟨g, off, none⟩) n cap → 0 < l.length → ¬ Fp g) (hK : K + 4 * n ≤ 28000) (hn : n ≤ 100) (hc0 : 0 ≤ calls) (hc1 : calls ≤ 1000000) (room : ((st.n + 4 * n * 2 ^ V.toNat : Nat) : Int) < B) :
    Calls Try.prog 52 #[.pointer (some ⟨db, 0, none⟩), .int .i64 f, v, .func (.func 43) #[.pointer (some ⟨db, 0, none⟩)] #[]] W fun e W' => ∃ x st' F, e = .returned (.int .i64 x) ∧ Hid (Mk W db V B st K (4 * n) Fp x st' (K + 4 * n) F (calls + ((2 * n : Nat) : Int)) W' (eachEv false (fun β => ev st.L β f) l)) := by
  have hn6 : st.n ≤ 8000000 := by have := hf.wf.n; omega
  have hfI := isN_iff.1 hi
  have HI : Hid (Calls Try.prog 28 #[.pointer (some ⟨db, 0, none⟩), .int .i64 f] W fun e w' => e = .returned (.bool true) ∧ W = w') := (bis_spec h (by omega) f (by omega)).mono fun e w' hh => ⟨by rw [hh.1, hi], hh.2⟩
  have HST : Hid (∃ x st' F, x = f ∧ Mk W db V B st K (4 * 0) Fp x st' (K + 4 * 0) F (calls + ((2 * 0 : Nat) : Int)) W (eachEv false (fun β => ev st.L β f) (l.take 0))) := ⟨f, st, Fp, rfl, by
    have q := mk_refl h hf hi
    simp only [Nat.mul_zero, Nat.add_zero]
    rw [show calls + ((0 : Nat) : Int) = calls by omega]
    exact q⟩
  obtain ⟨ao, cap, rfl, hcap, hrow⟩ := hr
  rw [hl] at hcap hrow hrf ⊢
  have HROW := Lib.hid hrow
  have HRF := Lib.hid hrf
  have HL := Lib.hid hl
  have HRM := Lib.hid room
  clear h hf hi hrow hrf hl room hn6 hfI
  go_enter Try.func52, Try.ntmps52
  go_wp2_with fail
  refine HI.out.mono ?_
  rintro e w' ⟨rfl, rfl⟩
  go_wp2_with fail
  go_loopg [1, 17] n (fun g fx t wy => ∃ (j : Nat) (x : Int), j ≤ n ∧ g = n - j ∧ fx = .int .i64 x ∧ t = .int .i64 j ∧ Hid (∃ st' F, Mk W db V B st K (4 * j) Fp x st' (K + 4 * j) F (calls + ((2 * j : Nat) : Int)) wy (eachEv false (fun β => ev st.L β f) (l.take j))))
  case atStart =>
    obtain ⟨x, st', F, rfl, q⟩ := HST.out
    exact ⟨0, _, Nat.zero_le _, rfl, rfl, rfl, st', F, q⟩
  case round =>
    clear HST HI
    obtain ⟨j, x, hj, rfl, rfl, rfl, HJ⟩ := hrel
    obtain ⟨s0, F0, hJ⟩ := HJ.out
    clear HJ
    by_cases hlt : j < n
    · have hjI : (j : Int) < (n : Int) := by omega
      have hwj : IntKind.i64.wrap ((j : Int) + 1) = (j : Int) + 1 := IntWalk.i64_in _ (by omega)
      obtain ⟨g, off, rfl, hg, hcc⟩ := HROW.out (by omega)
      obtain ⟨v, hv⟩ : ∃ v, l[j]? = some v := ⟨_, List.getElem?_eq_getElem (by have := HL.out; omega)⟩
      have hgF := HRF.out g off n cap rfl (by omega)
      have c := (hJ.mv.keeps.cell (p := ⟨g, off + j, none⟩) hg hgF).trans (hcc j v hv)
      have hjc : j < cap := by omega
      have hgw : g < wr.heap.size := Nat.lt_of_lt_of_le hg hJ.mv.keeps.size
      have hroom := HRM.out
      have hjn := hJ.n
      have hmul : 4 * j * 2 ^ V.toNat + 4 * 2 ^ V.toNat ≤ 4 * n * 2 ^ V.toNat := by rw [← Nat.add_mul]; exact Nat.mul_le_mul_right _ (by omega)
      have hp1 : (4 * j + 1) * 2 ^ V.toNat = 4 * j * 2 ^ V.toNat + 2 ^ V.toNat := by rw [Nat.add_mul, Nat.one_mul]
      have hp2 : (4 * j + 1 + 1) * 2 ^ V.toNat = 4 * j * 2 ^ V.toNat + 2 ^ V.toNat + 2 ^ V.toNat := by rw [Nat.add_mul, Nat.add_mul, Nat.one_mul]
      have hp0 : 1 ≤ 2 ^ V.toNat := Nat.one_le_two_pow
      have HPP := Lib.hid (And.intro hroom (And.intro hjn (And.intro hmul (And.intro hp1 (And.intro hp2 hp0)))))
      have H1 := Lib.hid (restrict_spec hJ.bd hV0 hV hJ.fine (by omega) hJ.isx v false (by omega))
      have HJJ := Lib.hid hJ
      have HVV := Lib.hid hv
      clear hJ hcc hgF hv hroom hjn hmul hp1 hp2 hp0
      go_wp2_with fail
      refine H1.out.mono ?_
      rintro e w1 ⟨a, s1, F1, rfl, h1⟩
      have H1M := Lib.hid (HJJ.out.trans h1.out)
      have h1n := H1M.out.n
      obtain ⟨hroom, hjn, hmul, hp1, hp2, hp0⟩ := HPP.out
      have H2 := Lib.hid (restrict_spec h1.out.bd hV0 hV h1.out.fine (by omega) (h1.out.ext.is HJJ.out.isx) v true (by omega))
      have HA1 := Lib.hid h1.out
      clear H1 h1 hroom hjn hmul hp1 hp2 hp0 h1n
      go_wp2_with fail
      refine H2.out.mono ?_
      rintro e w2 ⟨b, s2, F2, rfl, h2⟩
      have H2M := Lib.hid (H1M.out.trans h2.out)
      have h2n := H2M.out.n
      obtain ⟨hroom, hjn, hmul, hp1, hp2, hp0⟩ := HPP.out
      have H3 := Lib.hid (and_two h2.out.bd hV0 hV h2.out.fine (by omega) (h2.out.ext.is HA1.out.isx) h2.out.isx (by omega) (by omega) (by omega))
      have HA2 := Lib.hid h2.out
      clear H2 h2 hroom hjn hmul hp1 hp2 hp0 h2n
      go_wp2_with fail
      refine H3.out.mono ?_
      rintro e w3 ⟨z, s3, F3, rfl, h3⟩
      have HN : Hid (∃ st' F, Mk W db V B st K (4 * (j + 1)) Fp z st' (K + 4 * (j + 1)) F (calls + ((2 * (j + 1) : Nat) : Int)) w3 (eachEv false (fun β => ev st.L β f) (l.take (j + 1)))) := by
        have q := H2M.out.trans h3.out
        refine ⟨s3, F3, ?_⟩
        rw [show 4 * (j + 1) = 4 * j + 1 + 1 + 2 by omega, show K + (4 * j + 1 + 1 + 2) = K + 4 * j + 1 + 1 + 2 by omega, show calls + ((2 * (j + 1) : Nat) : Int) = calls + ((2 * j : Nat) : Int) + 2 by omega]
        refine q.congr fun β => ?_
        rw [List.take_add_one, HVV.out, Option.toList_some]
        unfold eachEv
        rw [List.foldl_append]
        show _ = eachOne false (eachEv false (fun β => ev st.L β f) (l.take j)) v β
        unfold eachOne
        rw [HA2.out.ext.ev HA1.out.fine.wf.ok.good _ (isN_iff.1 HA1.out.isx).2, HA1.out.ev, HA2.out.ev, HA1.out.ext.ev HJJ.out.fine.wf.ok.good _ (isN_iff.1 HJJ.out.isx).2, HJJ.out.ev, HJJ.out.ev]
        rfl
      clear H3 h3 H2M HA1 HA2 H1M HJJ HVV c HPP
      go_wp2_with fail
      go_roundg (n - (j + 1))
      case measure => omega
      case rel => exact ⟨j + 1, z, by omega, rfl, rfl, by go_num, HN⟩
    · have hjI : ¬ (j : Int) < (n : Int) := by omega
      obtain rfl : j = n := by omega
      have hq := hJ
      rw [List.take_of_length_le (by have := HL.out; omega)] at hq
      have HQ := Lib.hid hq
      clear hJ hq
      go_wp2_with fail
      go_ret
      first | exact ⟨x, s0, F0, rfl, HQ⟩ | exact ⟨x, rfl, s0, F0, HQ⟩
theorem qeach_spec (h : Bd W db V B st calls Fp) (hV0 : 0 ≤ V) (hV : V ≤ 8) (hf : Fine V B K st) {f : Int} (hi : isN st.n f = true) {v : Value} {l : List Int} {n : Nat} (hl : l.length = n) (hr : ReadsI W v l) (hrf : ∀ g off n cap, v = .slice (some ⟨g, off, none⟩) n cap → 0 < l.length → ¬ Fp g) (hK : K + 4 * n ≤ 28000) (hn : n ≤ 100) (hc0 : 0 ≤ calls) (hc1 : calls ≤ 1000000) (room : ((st.n + 4 * n * 2 ^ V.toNat : Nat) : Int) < B) :
    Calls Try.prog 23 #[.pointer (some ⟨db, 0, none⟩), .int .i64 f, v] W fun e W' => ∃ x st' F, e = .returned (.int .i64 x) ∧ Hid (Mk W db V B st K (4 * n) Fp x st' (K + 4 * n) F (calls + ((2 * n : Nat) : Int)) W' (eachEv false (fun β => ev st.L β f) l)) := by
  have HC := Lib.hid (each_and h hV0 hV hf hi hl hr hrf hK hn hc0 hc1 room)
  obtain ⟨ao, cap, rfl, hcap, hrow⟩ := hr
  clear h hf hi hrow hrf hl room
  go_enter Try.func23, Try.ntmps23
  go_wp2_with fail
  refine HC.out.mono ?_
  rintro e w1 ⟨x, s1, F1, rfl, h1⟩
  go_wp2_with fail
  go_ret
  exact ⟨x, s1, F1, rfl, h1⟩
/-- A diagram in a variable's place. -/
theorem put_qspec (h : Bd W db V B st calls Fp) (hV0 : 0 ≤ V) (hV : V ≤ 8) (hf : Fine V B K st) {f g : Int} (hi : isN st.n f = true) (hg : isN st.n g = true) (v : Int) (hK : K ≤ 28000) (hc0 : 0 ≤ calls) (hc1 : calls ≤ 1000000) (room : ((st.n + 4 * 2 ^ V.toNat : Nat) : Int) < B) :
    Calls Try.prog 30 #[.pointer (some ⟨db, 0, none⟩), .int .i64 f, .int .i64 v, .int .i64 g] W fun e W' => ∃ x st' F, e = .returned (.int .i64 x) ∧ Hid (Mk W db V B st K 3 Fp x st' (K + 3) F (calls + 1) W' (fun β => if ev st.L β g then ev st.L (putB β v true) f else ev st.L (putB β v false) f)) := by
  have hn6 : st.n ≤ 8000000 := by have := hf.wf.n; omega
  have hfI := isN_iff.1 hi
  have hgI := isN_iff.1 hg
  have HI : Hid (Calls Try.prog 28 #[.pointer (some ⟨db, 0, none⟩), .int .i64 f] W fun e w' => e = .returned (.bool true) ∧ W = w') := (bis_spec h (by omega) f (by omega)).mono fun e w' hh => ⟨by rw [hh.1, hi], hh.2⟩
  have HG : Hid (Calls Try.prog 28 #[.pointer (some ⟨db, 0, none⟩), .int .i64 g] W fun e w' => e = .returned (.bool true) ∧ W = w') := (bis_spec h (by omega) g (by omega)).mono fun e w' hh => ⟨by rw [hh.1, hg], hh.2⟩
  have H1 := Lib.hid (restrict_spec h hV0 hV hf (by omega) hi v true (by omega))
  have HF := Lib.hid hf
  have HGG := Lib.hid hg
  have HII := Lib.hid hi
  have HRM := Lib.hid room
  clear h hf hi hg hn6 hfI hgI room
  go_enter Try.func30, Try.ntmps30
  go_wp2_with fail
  refine HI.out.mono ?_
  rintro e w' ⟨rfl, rfl⟩
  go_wp2_with fail
  refine HG.out.mono ?_
  rintro e w' ⟨rfl, rfl⟩
  go_wp2_with fail
  refine H1.out.mono ?_
  rintro e w1 ⟨a, s1, F1, rfl, h1⟩
  have hn1 := h1.out.n
  rw [Nat.one_mul] at hn1
  have hrm := HRM.out
  have hp0 : 1 ≤ 2 ^ V.toNat := Nat.one_le_two_pow
  have H2 := Lib.hid (restrict_spec h1.out.bd hV0 hV h1.out.fine (by omega) (h1.out.ext.is HII.out) v false (by omega))
  have HA1 := Lib.hid h1.out
  clear H1 h1 HI HG
  go_wp2_with fail
  refine H2.out.mono ?_
  rintro e w2 ⟨b, s2, F2, rfl, h2⟩
  have H2M := Lib.hid (HA1.out.trans h2.out)
  have hn2 := H2M.out.n
  rw [Nat.add_mul, Nat.one_mul] at hn2
  have hp := pow_V hV
  obtain ⟨r, hr⟩ : ∃ r, iteT V B s2 g a b = r := ⟨_, rfl⟩
  have e12 := HA1.out.ext.trans h2.out.ext
  obtain ⟨f1, f2, f3, f4, f5, f6⟩ := ite_fine hV0 hV h2.out.fine (e12.is HGG.out) (h2.out.ext.is HA1.out.isx) h2.out.isx (by omega) hr
  have hns : s2.s = false := by
    cases e : s2.s with
    | false => rfl
    | true => have := h2.out.fine.bnd.2 e; omega
  have HIT : Hid (Calls Try.prog 42 #[.pointer (some ⟨db, 0, none⟩), .int .i64 g, .int .i64 a, .int .i64 b] w2 fun e W2 => ∃ z st' F, e = .returned (.int .i64 z) ∧ Hid (Mk w2 db V B s2 (K + 1 + 1) 1 F2 z st' (K + 1 + 1 + 1) F (calls + 1) W2 (fun β => if ev s2.L β g then ev s2.L β a else ev s2.L β b))) := by
    have q := bite_spec hV0 hV h2.out.bd h2.out.fine.wf (by omega) (e12.is HGG.out) (h2.out.ext.is HA1.out.isx) h2.out.isx hc0 (by omega)
    rw [opG_no hns, hr] at q
    refine q.mono ?_
    rintro e W2 ⟨rfl, hq⟩
    obtain ⟨F, hb, hm⟩ := hq.out
    exact ⟨r.1, r.2, F, rfl, hb, hm, f1, Nat.le_refl _, by rw [Nat.one_mul]; omega, f4, f2, f6⟩
  have HEQ : Hid (∀ β, (if ev s2.L β g then ev s2.L β a else ev s2.L β b) = if ev st.L β g then ev st.L (putB β v true) f else ev st.L (putB β v false) f) := fun β => by
    rw [e12.ev HF.out.wf.ok.good _ (isN_iff.1 HGG.out).2, h2.out.ext.ev HA1.out.fine.wf.ok.good _ (isN_iff.1 HA1.out.isx).2, HA1.out.ev, h2.out.ev, HA1.out.ext.ev HF.out.wf.ok.good _ (isN_iff.1 HII.out).2]
  clear H2 h2 hr f1 f2 f3 f4 f5 f6 e12 hns HA1
  go_wp2_with fail
  refine HIT.out.mono ?_
  rintro e w3 ⟨z, s3, F3, rfl, h3⟩
  have HP := Lib.hid ((H2M.out.trans h3.out).congr HEQ.out)
  clear HIT h3 H2M
  go_wp2_with fail
  go_ret
  exact ⟨z, s3, F3, rfl, HP⟩
end
end Go.Proofs.Ytfakjhcpaiaekaa
