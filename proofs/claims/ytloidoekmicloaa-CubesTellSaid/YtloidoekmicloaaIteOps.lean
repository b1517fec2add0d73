/-
  Diagrams of diagrams: the calls.
-/
import Derived.Test.YtloidoekmicloaaIteMay
set_option linter.unusedVariables false
set_option linter.unusedSimpArgs false
set_option linter.unnecessarySimpa false
namespace Go.Proofs.Ytloidoekmicloaa
open Go.ChangeShapes Go.WideShapes Go.ChangeAt Go.RowKit Go.Deep NodePlain
def opG (st : St) (k : Int × St) : Int × St := if st.s = true then (0, st) else k
def iteT (V B : Int) (st : St) (f g h : Int) : Int × St := iteM V B V.toNat st f g h
def xorT (V B : Int) (st : St) (f g : Int) : Int × St := iteT V B (iteT V B st g 0 1).2 f (iteT V B st g 0 1).1 g
def andT (V B : Int) (l : List Int) (x : Int × St) : Int × St := l.foldl (fun x f => iteT V B x.2 f x.1 0) x
def orT (V B : Int) (l : List Int) (x : Int × St) : Int × St := l.foldl (fun x f => iteT V B x.2 f 1 x.1) x
/-- A state behind so many calls of ite. -/
structure Wf (V : Int) (st : St) (K : Nat) : Prop where
  ok : Ok V st
  n : st.n ≤ 256 * K
  h0 : 0 ≤ st.hits
  h1 : st.hits ≤ ((256 * K : Nat) : Int)
section
variable {W W' : World} {db : Nat} {V B : Int} {st : St} {calls : Int} {Fp : Nat → Prop} {K : Nat}
theorem Wf.mono {K' : Nat} (w : Wf V st K) (h : K ≤ K') : Wf V st K' := ⟨w.ok, by have := w.n; omega, w.h0, by have := w.h1; omega⟩
theorem pow_V (hV : V ≤ 8) : 2 ^ V.toNat ≤ 256 := Nat.le_trans (Nat.pow_le_pow_right (by omega) (show V.toNat ≤ 8 by omega)) (by decide)
theorem mn_V (hV0 : 0 ≤ V) (ok : Ok V st) (f g h : Int) : V - mn V st.L st.n f g h ≤ V.toNat := by
  have a := var_pos hV0 ok.good f
  have b := var_pos hV0 ok.good g
  have c := var_pos hV0 ok.good h
  unfold mn; omega
theorem iteT_ok (hV0 : 0 ≤ V) (ok : Ok V st) {f g h : Int} (hf : isN st.n f = true) (hg : isN st.n g = true) (hh : isN st.n h = true) : ItePost V st f g h V.toNat (iteT V B st f g h) :=
  iteM_ok hV0 _ _ _ _ _ ok hf hg hh (mn_V hV0 ok f g h)
theorem iteT_wf (hV0 : 0 ≤ V) (hV : V ≤ 8) (w : Wf V st K) {f g h : Int} (hf : isN st.n f = true) (hg : isN st.n g = true) (hh : isN st.n h = true) : Wf V (iteT V B st f g h).2 (K + 1) := by
  have p := iteT_ok (B := B) hV0 w.ok hf hg hh
  have := pow_V hV
  have := p.few
  have := p.hhi
  have := p.hlo
  have := w.n
  have := w.h0
  have := w.h1
  exact ⟨p.ok, by omega, by omega, by omega⟩
theorem ite_call (hV0 : 0 ≤ V) (hV : V ≤ 8) (h : Bd W db V B st calls Fp) (w : Wf V st K) (hK : K ≤ 101000) {f g k : Int} (hf : isN st.n f = true) (hg : isN st.n g = true) (hk : isN st.n k = true) :
    Calls Try.prog 51 #[.pointer (some ⟨db, 0, none⟩), .int .i64 f, .int .i64 g, .int .i64 k] W fun e W' => e = .returned (.int .i64 (iteT V B st f g k).1) ∧ Hid (BdTo db V B (iteT V B st f g k).2 calls W Fp W') := by
  have := pow_V hV
  have := w.n
  have := w.h0
  have := w.h1
  exact ite_spec hV0 (by omega) _ st W Fp f g k h w.ok hf hg hk (mn_V hV0 w.ok f g k) (by omega) w.h0 (by omega)
theorem is0 (n : Nat) : isN n 0 = true := isN_iff.2 ⟨Int.le_refl _, by omega⟩
theorem is1 (n : Nat) : isN n 1 = true := isN_iff.2 ⟨by omega, by omega⟩
theorem BdTo.from {st' : St} {c' : Int} {W1 : World} {Fp1 : Nat → Prop} (h : BdTo db V B st' c' W1 Fp1 W') (m : Mv W W1 Fp Fp1) : BdTo db V B st' c' W Fp W' := by
  obtain ⟨Fp2, h1, h2⟩ := h
  exact ⟨Fp2, h1, m.trans h2⟩
theorem fold_ok (F : St → Int → Int → Int × St) (hF : ∀ st K x f, Wf V st K → isN st.n x = true → isN st.n f = true → Wf V (F st x f).2 (K + 1) ∧ isN (F st x f).2.n (F st x f).1 = true ∧ Ext st.L st.n (F st x f).2.L (F st x f).2.n) : ∀ (l : List Int) (x : Int × St) (K : Nat), Wf V x.2 K → isN x.2.n x.1 = true → (∀ f, f ∈ l → isN x.2.n f = true) →
    Wf V (l.foldl (fun x f => F x.2 x.1 f) x).2 (K + l.length) ∧ isN (l.foldl (fun x f => F x.2 x.1 f) x).2.n (l.foldl (fun x f => F x.2 x.1 f) x).1 = true ∧ Ext x.2.L x.2.n (l.foldl (fun x f => F x.2 x.1 f) x).2.L (l.foldl (fun x f => F x.2 x.1 f) x).2.n
  | [], x, K, w, h, _ => ⟨w, h, Ext.refl _ _⟩
  | f :: l, x, K, w, h, hl => by
    obtain ⟨a, b, c⟩ := hF x.2 K x.1 f w h (hl f (by simp))
    obtain ⟨a', b', c'⟩ := fold_ok F hF l (F x.2 x.1 f) (K + 1) a b (fun y hy => c.is (hl y (by simp [hy])))
    exact ⟨by rw [List.length_cons, show K + (l.length + 1) = K + 1 + l.length from by omega]; exact a', b', c.trans c'⟩
set_option maxRecDepth 100000
set_option maxHeartbeats 1600000
theorem bite_spec (hV0 : 0 ≤ V) (hV : V ≤ 8) (h : Bd W db V B st calls Fp) (w : Wf V st K) (hK : K ≤ 100000) {f g k : Int} (hf : isN st.n f = true) (hg : isN st.n g = true) (hk : isN st.n k = true) (hc0 : 0 ≤ calls) (hc : calls ≤ 100000000) :
    Calls Try.prog 29 #[.pointer (some ⟨db, 0, none⟩), .int .i64 f, .int .i64 g, .int .i64 k] W fun e W' => e = .returned (.int .i64 (opG st (iteT V B st f g k)).1) ∧ Hid (BdTo db V B (opG st (iteT V B st f g k)).2 (calls + 1) W Fp W') := by
  have hkA : Keeps (fun _ => False) W (W.alloc (.cells #[.int .i64 f, .int .i64 g, .int .i64 k] 3)) := (Keeps.refl _ _).alloc _
  have hal := (MapKept.heap_alloc W (.cells #[.int .i64 f, .int .i64 g, .int .i64 k] 3)).1
  have hrow : NumRow (W.alloc (.cells #[.int .i64 f, .int .i64 g, .int .i64 k] 3)) (some ⟨W.heap.size, 0, none⟩) [f, g, k] := fun _ => by
    refine ⟨W.heap.size, rfl, lt_of_heap hal, fun i x hx => ?_⟩
    rw [cell_of_heap hal]
    match i, hx with
    | 0, hx => simp at hx; subst hx; rfl
    | 1, hx => simp at hx; subst hx; rfl
    | 2, hx => simp at hx; subst hx; rfl
    | i + 3, hx => simp at hx
  have hn : st.n ≤ 100000000 := by have := w.n; omega
  have HMAY := Lib.hid (may_spec (h.quiet hkA) hn (l := [f, g, k]) (by simp [hf, hg, hk]) rfl (Nat.le_refl _) (by simp) hrow 1 (by omega) (by omega) hc0 hc)
  have HIT : Hid (∀ W' Fp', Bd W' db V B st (calls + 1) Fp' → Calls Try.prog 51 #[.pointer (some ⟨db, 0, none⟩), .int .i64 f, .int .i64 g, .int .i64 k] W' fun e W2 => e = .returned (.int .i64 (iteT V B st f g k).1) ∧ Hid (BdTo db V B (iteT V B st f g k).2 (calls + 1) W' Fp' W2)) := fun W' Fp' hb => ite_call hV0 hV hb w (by omega) hf hg hk
  generalize iteT V B st f g k = r1 at HIT ⊢
  have HMA : Hid (Mv W (W.alloc (.cells #[.int .i64 f, .int .i64 g, .int .i64 k] 3)) Fp Fp) := Mv.quiet hkA
  have HO : Hid (opG st r1 = if st.s = true then (0, st) else r1) := rfl
  generalize opG st r1 = res at HO ⊢
  clear h w hrow hal hkA 
  go_enter Try.func29, Try.ntmps29
  go_wp2_with fail
  refine HMAY.out.mono ?_
  rintro e wA ⟨rfl, hb⟩
  clear HMAY
  have HB := Lib.hid hb.out.1
  have HM : Hid (Mv W wA Fp Fp) := HMA.out.trans hb.out.2
  clear hb HMA
  cases hs : st.s with
  | true =>
    have HE : Hid (res = (0, st)) := by have e := HO.out; rw [if_pos hs] at e; exact e
    go_wp2_with fail
    go_ret
    rw [HE.out]
    exact ⟨rfl, Fp, HB.out, HM.out⟩
  | false =>
    have HE : Hid (res = r1) := by have e := HO.out; rw [if_neg (by rw [hs]; decide)] at e; exact e
    go_wp2_with fail
    refine (HIT.out _ _ HB.out).mono ?_
    rintro e wB ⟨rfl, hb2⟩
    go_wp2_with fail
    go_ret
    rw [HE.out]
    exact ⟨rfl, hb2.out.from HM.out⟩
theorem bnot_spec (hV0 : 0 ≤ V) (hV : V ≤ 8) (h : Bd W db V B st calls Fp) (w : Wf V st K) (hK : K ≤ 100000) {f : Int} (hf : isN st.n f = true) (hc0 : 0 ≤ calls) (hc : calls ≤ 100000000) :
    Calls Try.prog 31 #[.pointer (some ⟨db, 0, none⟩), .int .i64 f] W fun e W' => e = .returned (.int .i64 (opG st (iteT V B st f 0 1)).1) ∧ Hid (BdTo db V B (opG st (iteT V B st f 0 1)).2 (calls + 1) W Fp W') := by
  have hkA : Keeps (fun _ => False) W (W.alloc (.cells #[.int .i64 f] 3)) := (Keeps.refl _ _).alloc _
  have hal := (MapKept.heap_alloc W (.cells #[.int .i64 f] 3)).1
  have hrow : NumRow (W.alloc (.cells #[.int .i64 f] 3)) (some ⟨W.heap.size, 0, none⟩) [f] := fun _ => by
    refine ⟨W.heap.size, rfl, lt_of_heap hal, fun i x hx => ?_⟩
    rw [cell_of_heap hal]
    match i, hx with
    | 0, hx => simp at hx; subst hx; rfl
    | i + 1, hx => simp at hx
  have hn : st.n ≤ 100000000 := by have := w.n; omega
  have HMAY := Lib.hid (may_spec (h.quiet hkA) hn (l := [f]) (by simp [hf]) rfl (Nat.le_refl _) (by simp) hrow 1 (by omega) (by omega) hc0 hc)
  have HIT : Hid (∀ W' Fp', Bd W' db V B st (calls + 1) Fp' → Calls Try.prog 51 #[.pointer (some ⟨db, 0, none⟩), .int .i64 f, .int .i64 0, .int .i64 1] W' fun e W2 => e = .returned (.int .i64 (iteT V B st f 0 1).1) ∧ Hid (BdTo db V B (iteT V B st f 0 1).2 (calls + 1) W' Fp' W2)) := fun W' Fp' hb => ite_call hV0 hV hb w (by omega) hf (is0 _) (is1 _)
  generalize iteT V B st f 0 1 = r1 at HIT ⊢
  have HMA : Hid (Mv W (W.alloc (.cells #[.int .i64 f] 3)) Fp Fp) := Mv.quiet hkA
  have HO : Hid (opG st r1 = if st.s = true then (0, st) else r1) := rfl
  generalize opG st r1 = res at HO ⊢
  clear h w hrow hal hkA 
  go_enter Try.func31, Try.ntmps31
  go_wp2_with fail
  refine HMAY.out.mono ?_
  rintro e wA ⟨rfl, hb⟩
  clear HMAY
  have HB := Lib.hid hb.out.1
  have HM : Hid (Mv W wA Fp Fp) := HMA.out.trans hb.out.2
  clear hb HMA
  cases hs : st.s with
  | true =>
    have HE : Hid (res = (0, st)) := by have e := HO.out; rw [if_pos hs] at e; exact e
    go_wp2_with fail
    go_ret
    rw [HE.out]
    exact ⟨rfl, Fp, HB.out, HM.out⟩
  | false =>
    have HE : Hid (res = r1) := by have e := HO.out; rw [if_neg (by rw [hs]; decide)] at e; exact e
    go_wp2_with fail
    refine (HIT.out _ _ HB.out).mono ?_
    rintro e wB ⟨rfl, hb2⟩
    go_wp2_with fail
    go_ret
    rw [HE.out]
    exact ⟨rfl, hb2.out.from HM.out⟩
theorem bless_spec (hV0 : 0 ≤ V) (hV : V ≤ 8) (h : Bd W db V B st calls Fp) (w : Wf V st K) (hK : K ≤ 100000) {f g : Int} (hf : isN st.n f = true) (hg : isN st.n g = true) (hc0 : 0 ≤ calls) (hc : calls ≤ 100000000) :
    Calls Try.prog 35 #[.pointer (some ⟨db, 0, none⟩), .int .i64 f, .int .i64 g] W fun e W' => e = .returned (.int .i64 (opG st (iteT V B st f 0 g)).1) ∧ Hid (BdTo db V B (opG st (iteT V B st f 0 g)).2 (calls + 1) W Fp W') := by
  have hkA : Keeps (fun _ => False) W (W.alloc (.cells #[.int .i64 f, .int .i64 g] 3)) := (Keeps.refl _ _).alloc _
  have hal := (MapKept.heap_alloc W (.cells #[.int .i64 f, .int .i64 g] 3)).1
  have hrow : NumRow (W.alloc (.cells #[.int .i64 f, .int .i64 g] 3)) (some ⟨W.heap.size, 0, none⟩) [f, g] := fun _ => by
    refine ⟨W.heap.size, rfl, lt_of_heap hal, fun i x hx => ?_⟩
    rw [cell_of_heap hal]
    match i, hx with
    | 0, hx => simp at hx; subst hx; rfl
    | 1, hx => simp at hx; subst hx; rfl
    | i + 2, hx => simp at hx
  have hn : st.n ≤ 100000000 := by have := w.n; omega
  have HMAY := Lib.hid (may_spec (h.quiet hkA) hn (l := [f, g]) (by simp [hf, hg]) rfl (Nat.le_refl _) (by simp) hrow 1 (by omega) (by omega) hc0 hc)
  have HIT : Hid (∀ W' Fp', Bd W' db V B st (calls + 1) Fp' → Calls Try.prog 51 #[.pointer (some ⟨db, 0, none⟩), .int .i64 f, .int .i64 0, .int .i64 g] W' fun e W2 => e = .returned (.int .i64 (iteT V B st f 0 g).1) ∧ Hid (BdTo db V B (iteT V B st f 0 g).2 (calls + 1) W' Fp' W2)) := fun W' Fp' hb => ite_call hV0 hV hb w (by omega) hf (is0 _) hg
  generalize iteT V B st f 0 g = r1 at HIT ⊢
  have HMA : Hid (Mv W (W.alloc (.cells #[.int .i64 f, .int .i64 g] 3)) Fp Fp) := Mv.quiet hkA
  have HO : Hid (opG st r1 = if st.s = true then (0, st) else r1) := rfl
  generalize opG st r1 = res at HO ⊢
  clear h w hrow hal hkA 
  go_enter Try.func35, Try.ntmps35
  go_wp2_with fail
  refine HMAY.out.mono ?_
  rintro e wA ⟨rfl, hb⟩
  clear HMAY
  have HB := Lib.hid hb.out.1
  have HM : Hid (Mv W wA Fp Fp) := HMA.out.trans hb.out.2
  clear hb HMA
  cases hs : st.s with
  | true =>
    have HE : Hid (res = (0, st)) := by have e := HO.out; rw [if_pos hs] at e; exact e
    go_wp2_with fail
    go_ret
    rw [HE.out]
    exact ⟨rfl, Fp, HB.out, HM.out⟩
  | false =>
    have HE : Hid (res = r1) := by have e := HO.out; rw [if_neg (by rw [hs]; decide)] at e; exact e
    go_wp2_with fail
    refine (HIT.out _ _ HB.out).mono ?_
    rintro e wB ⟨rfl, hb2⟩
    go_wp2_with fail
    go_ret
    rw [HE.out]
    exact ⟨rfl, hb2.out.from HM.out⟩
theorem bxor_spec (hV0 : 0 ≤ V) (hV : V ≤ 8) (h : Bd W db V B st calls Fp) (w : Wf V st K) (hK : K ≤ 100000) {f g : Int} (hf : isN st.n f = true) (hg : isN st.n g = true) (hc0 : 0 ≤ calls) (hc : calls ≤ 100000000) :
    Calls Try.prog 34 #[.pointer (some ⟨db, 0, none⟩), .int .i64 f, .int .i64 g] W fun e W' => e = .returned (.int .i64 (opG st (xorT V B st f g)).1) ∧ Hid (BdTo db V B (opG st (xorT V B st f g)).2 (calls + 1) W Fp W') := by
  have hkA : Keeps (fun _ => False) W (W.alloc (.cells #[.int .i64 f, .int .i64 g] 3)) := (Keeps.refl _ _).alloc _
  have hal := (MapKept.heap_alloc W (.cells #[.int .i64 f, .int .i64 g] 3)).1
  have hrow : NumRow (W.alloc (.cells #[.int .i64 f, .int .i64 g] 3)) (some ⟨W.heap.size, 0, none⟩) [f, g] := fun _ => by
    refine ⟨W.heap.size, rfl, lt_of_heap hal, fun i x hx => ?_⟩
    rw [cell_of_heap hal]
    match i, hx with
    | 0, hx => simp at hx; subst hx; rfl
    | 1, hx => simp at hx; subst hx; rfl
    | i + 2, hx => simp at hx
  have hn : st.n ≤ 100000000 := by have := w.n; omega
  have HMAY := Lib.hid (may_spec (h.quiet hkA) hn (l := [f, g]) (by simp [hf, hg]) rfl (Nat.le_refl _) (by simp) hrow 1 (by omega) (by omega) hc0 hc)
  have HIT : Hid (∀ W' Fp', Bd W' db V B st (calls + 1) Fp' → Calls Try.prog 51 #[.pointer (some ⟨db, 0, none⟩), .int .i64 g, .int .i64 0, .int .i64 1] W' fun e W2 => e = .returned (.int .i64 (iteT V B st g 0 1).1) ∧ Hid (BdTo db V B (iteT V B st g 0 1).2 (calls + 1) W' Fp' W2)) := fun W' Fp' hb => ite_call hV0 hV hb w (by omega) hg (is0 _) (is1 _)
  have P1 := iteT_ok (B := B) hV0 w.ok hg (is0 _) (is1 _)
  have w1 := iteT_wf (B := B) hV0 hV w hg (is0 _) (is1 _)
  unfold xorT
  generalize iteT V B st g 0 1 = r1 at P1 w1 HIT ⊢
  have HIT2 : Hid (∀ W' Fp', Bd W' db V B r1.2 (calls + 1) Fp' → Calls Try.prog 51 #[.pointer (some ⟨db, 0, none⟩), .int .i64 f, .int .i64 r1.1, .int .i64 g] W' fun e W2 => e = .returned (.int .i64 (iteT V B r1.2 f r1.1 g).1) ∧ Hid (BdTo db V B (iteT V B r1.2 f r1.1 g).2 (calls + 1) W' Fp' W2)) := fun W' Fp' hb => ite_call hV0 hV hb w1 (by omega) (P1.ext.is hf) P1.isr (P1.ext.is hg)
  generalize iteT V B r1.2 f r1.1 g = r2 at HIT2 ⊢
  have HMA : Hid (Mv W (W.alloc (.cells #[.int .i64 f, .int .i64 g] 3)) Fp Fp) := Mv.quiet hkA
  have HO : Hid (opG st r2 = if st.s = true then (0, st) else r2) := rfl
  generalize opG st r2 = res at HO ⊢
  clear h w hrow hal hkA P1 w1
  go_enter Try.func34, Try.ntmps34
  go_wp2_with fail
  refine HMAY.out.mono ?_
  rintro e wA ⟨rfl, hb⟩
  clear HMAY
  have HB := Lib.hid hb.out.1
  have HM : Hid (Mv W wA Fp Fp) := HMA.out.trans hb.out.2
  clear hb HMA
  cases hs : st.s with
  | true =>
    have HE : Hid (res = (0, st)) := by have e := HO.out; rw [if_pos hs] at e; exact e
    go_wp2_with fail
    go_ret
    rw [HE.out]
    exact ⟨rfl, Fp, HB.out, HM.out⟩
  | false =>
    have HE : Hid (res = r2) := by have e := HO.out; rw [if_neg (by rw [hs]; decide)] at e; exact e
    go_wp2_with fail
    refine (HIT.out _ _ HB.out).mono ?_
    rintro e wB ⟨rfl, hb2⟩
    obtain ⟨Fp2, hb3, hm3⟩ := hb2.out
    have HB3 := Lib.hid hb3
    have HM3 : Hid (Mv W wB Fp Fp2) := HM.out.trans hm3
    clear hb2 hb3 hm3 HIT HB HM
    go_wp2_with fail
    refine (HIT2.out _ _ HB3.out).mono ?_
    rintro e wC ⟨rfl, hb4⟩
    go_wp2_with fail
    go_ret
    rw [HE.out]
    exact ⟨rfl, hb4.out.from HM3.out⟩
theorem band_step (hV0 : 0 ≤ V) (hV : V ≤ 8) : ∀ st K x f, Wf V st K → isN st.n x = true → isN st.n f = true → Wf V (iteT V B st f x 0).2 (K + 1) ∧ isN (iteT V B st f x 0).2.n (iteT V B st f x 0).1 = true ∧ Ext st.L st.n (iteT V B st f x 0).2.L (iteT V B st f x 0).2.n := fun st K x f w hx hf =>
  have p := iteT_ok (B := B) hV0 w.ok hf hx (is0 _)
  ⟨iteT_wf hV0 hV w hf hx (is0 _), p.isr, p.ext⟩
theorem band_spec (hV0 : 0 ≤ V) (hV : V ≤ 8) (h : Bd W db V B st calls Fp) (w : Wf V st K) (hK : K ≤ 100000) {l : List Int} (hl : ∀ x, x ∈ l → isN st.n x = true) {so : Option Addr} {n cap : Nat} (hln : l.length = n) (hcap : n ≤ cap) (hn10 : n ≤ 10) (hrow : NumRow W so l) (hro : ∀ b, so = some ⟨b, 0, none⟩ → ¬ Fp b) (hc0 : 0 ≤ calls) (hc : calls ≤ 100000000) :
    Calls Try.prog 32 #[.pointer (some ⟨db, 0, none⟩), .slice so n cap] W fun e W' => e = .returned (.int .i64 (opG st (andT V B l (1, st))).1) ∧ Hid (BdTo db V B (opG st (andT V B l (1, st))).2 (calls + n) W Fp W') := by
  have hn : st.n ≤ 100000000 := by have := w.n; omega
  have HMAY := Lib.hid (may_spec h hn hl hln hcap hn10 hrow n (by omega) (by omega) hc0 hc)
  have HROW : Hid (∀ W', Keeps Fp W W' → NumRow W' so l) := fun W' hk => hrow.keeps hk hro
  have HW := Lib.hid w
  have HL := Lib.hid hl
  have HO : Hid (opG st (andT V B l (1, st)) = if st.s = true then (0, st) else andT V B l (1, st)) := rfl
  generalize opG st (andT V B l (1, st)) = res at HO ⊢
  clear h w hrow hl
  go_enter Try.func32, Try.ntmps32
  go_wp2_with fail
  refine HMAY.out.mono ?_
  rintro e wA ⟨rfl, hb⟩
  clear HMAY
  have HB := Lib.hid hb.out.1
  have HM := Lib.hid hb.out.2
  clear hb
  cases hs : st.s with
  | true =>
    have HE : Hid (res = (0, st)) := by have e := HO.out; rw [if_pos hs] at e; exact e
    go_wp2_with fail
    go_ret
    rw [HE.out]
    exact ⟨rfl, Fp, HB.out, HM.out⟩
  | false =>
    have HE : Hid (res = andT V B l (1, st)) := by have e := HO.out; rw [if_neg (by rw [hs]; decide)] at e; exact e
    clear HO
    go_wp2_with fail
    go_loopg [5, 16] n (fun g s t wy => ∃ (j : Nat) (x : Int) (sy : St) (Fy : Nat → Prop), j ≤ n ∧ g = n - j ∧ s = .int .i64 x ∧ t = .int .i64 j ∧ Hid (andT V B (l.take j) (1, st) = (x, sy)) ∧ Hid (Bd wy db V B sy (calls + n) Fy) ∧ Hid (Mv W wy Fp Fy))
    case atStart => exact ⟨0, 1, st, Fp, Nat.zero_le _, rfl, rfl, rfl, rfl, HB.out, HM.out⟩
    case round =>
      clear HB HM
      obtain ⟨j, x, sy, Fy, hj, rfl, rfl, rfl, HT, HB, HM⟩ := hrel
      have hfold := fold_ok (fun st x f => iteT V B st f x 0) (band_step hV0 hV) (l.take j) (1, st) K HW.out (is1 _) (fun f hf => HL.out f (List.mem_of_mem_take hf))
      have e0 : (l.take j).foldl (fun x f => iteT V B x.2 f x.1 0) (1, st) = (x, sy) := HT.out
      rw [e0] at hfold
      obtain ⟨w1, hx, hext⟩ := hfold
      by_cases hlt : j < n
      · have hjI : (j : Int) < (n : Int) := by omega
        obtain ⟨f, hf⟩ : ∃ f, l[j]? = some f := ⟨_, List.getElem?_eq_getElem (by omega)⟩
        obtain ⟨bb, rfl, hbb, hcc⟩ := HROW.out _ HM.out.keeps (by omega)
        have c := hcc j f hf
        have hfN := hext.is (HL.out f (List.mem_of_getElem? hf))
        have HIT := Lib.hid (ite_call hV0 hV HB.out w1 (by rw [List.length_take]; omega) hfN hx (is0 _))
        have HN : Hid (andT V B (l.take (j + 1)) (1, st) = iteT V B sy f x 0) := by
          have e1 := HT.out
          unfold andT at e1 ⊢
          rw [List.take_add_one, hf, Option.toList_some, List.foldl_append, e1]
          rfl
        clear hcc hf hfN hx w1 hext HT e0
        generalize iteT V B sy f x 0 = r at HIT HN
        go_wp2_with fail
        refine HIT.out.mono ?_
        rintro e wB ⟨rfl, hb2⟩
        obtain ⟨Fz, hb3, hm3⟩ := hb2.out
        have HB3 := Lib.hid hb3
        have HM3 : Hid (Mv W wB Fp Fz) := HM.out.trans hm3
        clear hb2 hb3 hm3 HIT HB HM
        go_wp2_with fail
        go_roundg (n - (j + 1))
        case measure => omega
        case rel => exact ⟨j + 1, r.1, r.2, Fz, by omega, rfl, rfl, by go_num, HN.out, HB3.out, HM3.out⟩
      · have hjE : j = n := by omega
        have hjI : ¬ (j : Int) < (n : Int) := by omega
        have hr : res = (x, sy) := by
          rw [HE.out, ← HT.out, hjE, ← hln, List.take_length]
        have HR := Lib.hid hr
        clear hr
        clear HT e0 hx w1 hext
        go_wp2_with fail
        go_ret
        rw [HR.out]
        exact ⟨rfl, Fy, HB.out, HM.out⟩
theorem bor_step (hV0 : 0 ≤ V) (hV : V ≤ 8) : ∀ st K x f, Wf V st K → isN st.n x = true → isN st.n f = true → Wf V (iteT V B st f 1 x).2 (K + 1) ∧ isN (iteT V B st f 1 x).2.n (iteT V B st f 1 x).1 = true ∧ Ext st.L st.n (iteT V B st f 1 x).2.L (iteT V B st f 1 x).2.n := fun st K x f w hx hf =>
  have p := iteT_ok (B := B) hV0 w.ok hf (is1 _) hx
  ⟨iteT_wf hV0 hV w hf (is1 _) hx, p.isr, p.ext⟩
theorem bor_spec (hV0 : 0 ≤ V) (hV : V ≤ 8) (h : Bd W db V B st calls Fp) (w : Wf V st K) (hK : K ≤ 100000) {l : List Int} (hl : ∀ x, x ∈ l → isN st.n x = true) {so : Option Addr} {n cap : Nat} (hln : l.length = n) (hcap : n ≤ cap) (hn10 : n ≤ 10) (hrow : NumRow W so l) (hro : ∀ b, so = some ⟨b, 0, none⟩ → ¬ Fp b) (hc0 : 0 ≤ calls) (hc : calls ≤ 100000000) :
    Calls Try.prog 33 #[.pointer (some ⟨db, 0, none⟩), .slice so n cap] W fun e W' => e = .returned (.int .i64 (opG st (orT V B l (0, st))).1) ∧ Hid (BdTo db V B (opG st (orT V B l (0, st))).2 (calls + n) W Fp W') := by
  have hn : st.n ≤ 100000000 := by have := w.n; omega
  have HMAY := Lib.hid (may_spec h hn hl hln hcap hn10 hrow n (by omega) (by omega) hc0 hc)
  have HROW : Hid (∀ W', Keeps Fp W W' → NumRow W' so l) := fun W' hk => hrow.keeps hk hro
  have HW := Lib.hid w
  have HL := Lib.hid hl
  have HO : Hid (opG st (orT V B l (0, st)) = if st.s = true then (0, st) else orT V B l (0, st)) := rfl
  generalize opG st (orT V B l (0, st)) = res at HO ⊢
  clear h w hrow hl
  go_enter Try.func33, Try.ntmps33
  go_wp2_with fail
  refine HMAY.out.mono ?_
  rintro e wA ⟨rfl, hb⟩
  clear HMAY
  have HB := Lib.hid hb.out.1
  have HM := Lib.hid hb.out.2
  clear hb
  cases hs : st.s with
  | true =>
    have HE : Hid (res = (0, st)) := by have e := HO.out; rw [if_pos hs] at e; exact e
    go_wp2_with fail
    go_ret
    rw [HE.out]
    exact ⟨rfl, Fp, HB.out, HM.out⟩
  | false =>
    have HE : Hid (res = orT V B l (0, st)) := by have e := HO.out; rw [if_neg (by rw [hs]; decide)] at e; exact e
    clear HO
    go_wp2_with fail
    go_loopg [5, 16] n (fun g s t wy => ∃ (j : Nat) (x : Int) (sy : St) (Fy : Nat → Prop), j ≤ n ∧ g = n - j ∧ s = .int .i64 x ∧ t = .int .i64 j ∧ Hid (orT V B (l.take j) (0, st) = (x, sy)) ∧ Hid (Bd wy db V B sy (calls + n) Fy) ∧ Hid (Mv W wy Fp Fy))
    case atStart => exact ⟨0, 0, st, Fp, Nat.zero_le _, rfl, rfl, rfl, rfl, HB.out, HM.out⟩
    case round =>
      clear HB HM
      obtain ⟨j, x, sy, Fy, hj, rfl, rfl, rfl, HT, HB, HM⟩ := hrel
      have hfold := fold_ok (fun st x f => iteT V B st f 1 x) (bor_step hV0 hV) (l.take j) (0, st) K HW.out (is0 _) (fun f hf => HL.out f (List.mem_of_mem_take hf))
      have e0 : (l.take j).foldl (fun x f => iteT V B x.2 f 1 x.1) (0, st) = (x, sy) := HT.out
      rw [e0] at hfold
      obtain ⟨w1, hx, hext⟩ := hfold
      by_cases hlt : j < n
      · have hjI : (j : Int) < (n : Int) := by omega
        obtain ⟨f, hf⟩ : ∃ f, l[j]? = some f := ⟨_, List.getElem?_eq_getElem (by omega)⟩
        obtain ⟨bb, rfl, hbb, hcc⟩ := HROW.out _ HM.out.keeps (by omega)
        have c := hcc j f hf
        have hfN := hext.is (HL.out f (List.mem_of_getElem? hf))
        have HIT := Lib.hid (ite_call hV0 hV HB.out w1 (by rw [List.length_take]; omega) hfN (is1 _) hx)
        have HN : Hid (orT V B (l.take (j + 1)) (0, st) = iteT V B sy f 1 x) := by
          have e1 := HT.out
          unfold orT at e1 ⊢
          rw [List.take_add_one, hf, Option.toList_some, List.foldl_append, e1]
          rfl
        clear hcc hf hfN hx w1 hext HT e0
        generalize iteT V B sy f 1 x = r at HIT HN
        go_wp2_with fail
        refine HIT.out.mono ?_
        rintro e wB ⟨rfl, hb2⟩
        obtain ⟨Fz, hb3, hm3⟩ := hb2.out
        have HB3 := Lib.hid hb3
        have HM3 : Hid (Mv W wB Fp Fz) := HM.out.trans hm3
        clear hb2 hb3 hm3 HIT HB HM
        go_wp2_with fail
        go_roundg (n - (j + 1))
        case measure => omega
        case rel => exact ⟨j + 1, r.1, r.2, Fz, by omega, rfl, rfl, by go_num, HN.out, HB3.out, HM3.out⟩
      · have hjE : j = n := by omega
        have hjI : ¬ (j : Int) < (n : Int) := by omega
        have hr : res = (x, sy) := by
          rw [HE.out, ← HT.out, hjE, ← hln, List.take_length]
        have HR := Lib.hid hr
        clear hr
        clear HT e0 hx w1 hext
        go_wp2_with fail
        go_ret
        rw [HR.out]
        exact ⟨rfl, Fy, HB.out, HM.out⟩
theorem make_wf (w : Wf V st K) (v : Int) : Wf V (makeM V B st v 0 1).2 (K + 1) ∧ Ext st.L st.n (makeM V B st v 0 1).2.L (makeM V B st v 0 1).2.n ∧ isN (makeM V B st v 0 1).2.n (makeM V B st v 0 1).1 = true := by
  have hn := w.n
  have h0 := w.h0
  have h1 := w.h1
  by_cases hf : fitN V st.L st.n v 0 1 = true
  · obtain ⟨m1, m2, m3, m4, m5⟩ := make_ok (B := B) w.ok.good hf
    exact ⟨⟨⟨m1, fun i f g h x hx => (w.ok.cache i f g h x hx).ext m2 w.ok.good⟩, by show (resN V B st.L st.n v 0 1).len st.n ≤ _; omega, h0, by show st.hits ≤ _; omega⟩, m2, m4⟩
  · have e : resN V B st.L st.n v 0 1 = .bad := by unfold resN; rw [if_neg hf]
    unfold makeM
    rw [e]
    exact ⟨⟨⟨w.ok.good, w.ok.cache⟩, by show st.n ≤ _; omega, h0, by show st.hits ≤ _; omega⟩, Ext.refl _ _, is0 _⟩
theorem blit_spec (h : Bd W db V B st calls Fp) (w : Wf V st K) (hK : K ≤ 100000) {v : Int} (hv0 : 0 ≤ v) (hv : v ≤ 100) (hc0 : 0 ≤ calls) (hc : calls ≤ 100000000) :
    Calls Try.prog 27 #[.pointer (some ⟨db, 0, none⟩), .int .i64 v] W fun e W' => e = .returned (.int .i64 (opG st (makeM V B st v 0 1)).1) ∧ Hid (BdTo db V B (opG st (makeM V B st v 0 1)).2 (calls + 1) W Fp W') := by
  have hn : st.n ≤ 100000000 := by have := w.n; omega
  have HMAY := Lib.hid (may_spec h hn (l := []) (by simp) (so := none) (n := 0) (cap := 0) rfl (Nat.le_refl _) (by omega) (fun h => absurd h (Nat.lt_irrefl _)) 1 (by omega) (by omega) hc0 hc)
  have HMK : Hid (∀ W' Fp', Bd W' db V B st (calls + 1) Fp' → Calls Try.prog 50 #[.pointer (some ⟨db, 0, none⟩), .int .i64 v, .int .i64 0, .int .i64 1] W' fun e W2 => e = .returned (.int .i64 (makeM V B st v 0 1).1) ∧ Hid (BdTo db V B (makeM V B st v 0 1).2 (calls + 1) W' Fp' W2)) := fun W' Fp' hb => bmake_spec hb (by omega) v 0 1 (by omega) (by omega) (by omega) (by omega) (by omega) (by omega)
  generalize makeM V B st v 0 1 = r1 at HMK ⊢
  have HO : Hid (opG st r1 = if st.s = true then (0, st) else r1) := rfl
  generalize opG st r1 = res at HO ⊢
  clear h w
  go_enter Try.func27, Try.ntmps27
  go_wp2_with fail
  refine HMAY.out.mono ?_
  rintro e wA ⟨rfl, hb⟩
  clear HMAY
  have HB := Lib.hid hb.out.1
  have HM := Lib.hid hb.out.2
  clear hb
  cases hs : st.s with
  | true =>
    have HE : Hid (res = (0, st)) := by have e := HO.out; rw [if_pos hs] at e; exact e
    go_wp2_with fail
    go_ret
    rw [HE.out]
    exact ⟨rfl, Fp, HB.out, HM.out⟩
  | false =>
    have HE : Hid (res = r1) := by have e := HO.out; rw [if_neg (by rw [hs]; decide)] at e; exact e
    go_wp2_with fail
    refine (HMK.out _ _ HB.out).mono ?_
    rintro e wB ⟨rfl, hb2⟩
    go_wp2_with fail
    go_ret
    rw [HE.out]
    exact ⟨rfl, hb2.out.from HM.out⟩
end
end Go.Proofs.Ytloidoekmicloaa
