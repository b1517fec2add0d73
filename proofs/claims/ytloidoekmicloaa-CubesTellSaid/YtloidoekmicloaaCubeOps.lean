/-
  A maker of diagrams, of the call's own: what its calls leave, with late diagrams told.
-/
import Derived.Test.YtloidoekmicloaaCubeCost
import Derived.Test.YtloidoekmicloaaIteOps
import Derived.Test.YtloidoekmicloaaIteMade
import Derived.Test.YtloidoekmicloaaMY
set_option linter.unusedVariables false
set_option linter.unusedSimpArgs false
set_option linter.unnecessarySimpa false
namespace Go.Proofs.Ytloidoekmicloaa
open Go.ChangeShapes Go.WideShapes Go.ChangeAt Go.RowKit Go.Deep NodePlain
/-- A maker behind z. -/
structure Dg (z : Nat) (W : World) (k d : Nat) (B : Int) (st : St) (kc : Nat) (calls : Int) (F : Nat → Prop) : Prop where
  bd : Bd W d k B st calls F
  fine : Fine k B kc st
  c0 : 0 ≤ calls
  c1 : calls ≤ (kc : Int)
  fw : ∀ x, F x → z ≤ x
/-- Where it is behind some calls: so many nodes more, so many calls more. -/
structure DgTo (z : Nat) (W : World) (k d : Nat) (B : Int) (st : St) (kc : Nat) (F : Nat → Prop) (n c : Nat) (st' : St) (kc' : Nat) (calls' : Int) (F' : Nat → Prop) (W' : World) : Prop where
  dg : Dg z W' k d B st' kc' calls' F'
  mv : Mv W W' F F'
  ext : Ext st.L st.n st'.L st'.n
  hn : st'.n ≤ st.n + n
  hc : kc' ≤ kc + c
section
variable {z : Nat} {W W' W1 W2 : World} {k d : Nat} {B : Int} {st st1 st2 : St} {kc kc1 kc2 : Nat} {calls calls1 calls2 : Int} {F F1 F2 : Nat → Prop} {n c n' c' : Nat}
theorem Dg.quiet (h : Dg z W k d B st kc calls F) (hk : Keeps (fun _ => False) W W') : Dg z W' k d B st kc calls F := ⟨h.bd.quiet hk, h.fine, h.c0, h.c1, h.fw⟩
theorem Dg.good (h : Dg z W k d B st kc calls F) : NodePlain.Good (k : Int) st.L st.n := h.bd.good
theorem Dg.ns (h : Dg z W k d B st kc calls F) (room : ((st.n : Nat) : Int) < B) : st.s = false := by
  cases e : st.s with
  | false => rfl
  | true => have := h.fine.bnd.2 e; omega
theorem DgTo.refl (h : Dg z W k d B st kc calls F) : DgTo z W k d B st kc F 0 0 st kc calls F W := ⟨h, Mv.refl _ _, Ext.refl _ _, Nat.le_refl _, Nat.le_refl _⟩
theorem DgTo.trans (h : DgTo z W k d B st kc F n c st1 kc1 calls1 F1 W1) (h2 : DgTo z W1 k d B st1 kc1 F1 n' c' st2 kc2 calls2 F2 W2) : DgTo z W k d B st kc F (n + n') (c + c') st2 kc2 calls2 F2 W2 :=
  ⟨h2.dg, h.mv.trans h2.mv, h.ext.trans h2.ext, by have := h.hn; have := h2.hn; omega, by have := h.hc; have := h2.hc; omega⟩
theorem DgTo.quiet (h : DgTo z W k d B st kc F n c st1 kc1 calls1 F1 W1) (hk : Keeps (fun _ => False) W1 W2) : DgTo z W k d B st kc F n c st1 kc1 calls1 F1 W2 :=
  ⟨h.dg.quiet hk, h.mv.trans (Mv.quiet hk), h.ext, h.hn, h.hc⟩
theorem DgTo.before (h : DgTo z W1 k d B st kc F n c st1 kc1 calls1 F1 W2) (hk : Keeps (fun _ => False) W W1) : DgTo z W k d B st kc F n c st1 kc1 calls1 F1 W2 :=
  ⟨h.dg, (Mv.quiet hk).trans h.mv, h.ext, h.hn, h.hc⟩
theorem DgTo.more (h : DgTo z W k d B st kc F n c st1 kc1 calls1 F1 W1) (hn : n ≤ n') (hc : c ≤ c') : DgTo z W k d B st kc F n' c' st1 kc1 calls1 F1 W1 :=
  ⟨h.dg, h.mv, h.ext, by have := h.hn; omega, by have := h.hc; omega⟩
theorem Num.to {x : Int} {S : (Nat → Bool) → Bool} (h : Num st x S) (t : DgTo z W k d B st kc F n c st1 kc1 calls1 F1 W1) (g : NodePlain.Good (k : Int) st.L st.n) : Num st1 x S := h.ext t.ext g
theorem Late.to {x : Int} {m : Nat} {S : (Nat → Bool) → Bool} (h : Late (k : Int) st m x) (hx : Num st x S) (t : DgTo z W k d B st kc F n c st1 kc1 calls1 F1 W1) : Late (k : Int) st1 m x := h.ext t.ext hx.is
/-- What a call that makes a diagram leaves. -/
def OpTo (z : Nat) (W : World) (k d : Nat) (B : Int) (st : St) (kc : Nat) (F : Nat → Prop) (n c m : Nat) (S : (Nat → Bool) → Bool) (e : Ending) (W' : World) : Prop :=
  ∃ r st' kc' calls' F', e = .returned (.int .i64 r) ∧ Hid (DgTo z W k d B st kc F n c st' kc' calls' F' W' ∧ Num st' r S ∧ Late (k : Int) st' m r)
theorem Num.congr {x : Int} {S T : (Nat → Bool) → Bool} (h : Num st x S) (e : ∀ β, S β = T β) : Num st x T := ⟨h.is, fun β => (h.ev β).trans (e β)⟩
theorem num0 (st : St) : Num st 0 (fun _ => false) := ⟨is0 _, fun β => ev0 _ _⟩
theorem num1 (st : St) : Num st 1 (fun _ => true) := ⟨is1 _, fun β => ev1 _ _⟩
theorem Num.range {x : Int} {S : (Nat → Bool) → Bool} (h : Num st x S) (hn : st.n ≤ 100000000) : 0 ≤ x ∧ x ≤ 9223372036854775807 := by
  have := isN_iff.1 h.is
  omega
/-- An if-then-else, as the walk's steps have it. -/
theorem dg_ite (h : Dg z W k d B st kc calls F) (hk8 : k ≤ 8) {x y u : Int} {X Y U : (Nat → Bool) → Bool} (hx : Num st x X) (hy : Num st y Y) (hu : Num st u U) {m : Nat} (lx : Late (k : Int) st m x) (ly : Late (k : Int) st m y) (lu : Late (k : Int) st m u) (room : ((st.n + 2 ^ k : Nat) : Int) < B) {r : Int × St} (hr : iteT (k : Int) B st x y u = r) :
    Fine k B (kc + 1) r.2 ∧ r.2.n ≤ st.n + 2 ^ m ∧ Ext st.L st.n r.2.L r.2.n ∧ Num r.2 r.1 (fun β => if X β then Y β else U β) ∧ Late (k : Int) r.2 m r.1 := by
  obtain ⟨h1, h2, h3, h4, h5, h6, h7⟩ := ite_late (by omega) (by omega) h.fine hx.is hy.is hu.is lx ly lu (by simpa using room) hr
  exact ⟨h1, h3, h4, ⟨h2, fun β => by rw [h7, hx.ev, hy.ev, hu.ev]⟩, h6⟩
theorem op_one {e : Ending} (h : Dg z W k d B st kc calls F) (hz : z ≤ W.heap.size) {r : Int × St} {m : Nat} {S : (Nat → Bool) → Bool} (he : e = .returned (.int .i64 r.1)) (hb : BdTo d k B r.2 (calls + 1) W F W') (h1 : Fine k B (kc + 1) r.2) (h2 : r.2.n ≤ st.n + n) (h3 : Ext st.L st.n r.2.L r.2.n) (h4 : Num r.2 r.1 S) (h5 : Late (k : Int) r.2 m r.1) :
    OpTo z W k d B st kc F n 1 m S e W' := by
  obtain ⟨F', b1, b2⟩ := hb
  have := h.c0
  have := h.c1
  exact ⟨r.1, r.2, kc + 1, calls + 1, F', he, ⟨⟨b1, h1, by omega, by omega, fun x hx => (b2.fp x hx).elim (h.fw x) (fun hx => Nat.le_trans hz hx)⟩, b2, h3, h2, Nat.le_refl _⟩, h4, h5⟩
theorem Dg.less (h : Dg z W k d B st kc calls F) (hz : z ≤ W.heap.size) (hk8 : k ≤ 8) (hkc : kc ≤ 90000) (room : ((st.n + 2 ^ k : Nat) : Int) < B) {x y : Int} {X Y : (Nat → Bool) → Bool} (hx : Num st x X) (hy : Num st y Y) {m : Nat} (lx : Late (k : Int) st m x) (ly : Late (k : Int) st m y) :
    Calls Try.prog 35 #[.pointer (some ⟨d, 0, none⟩), .int .i64 x, .int .i64 y] W (OpTo z W k d B st kc F (2 ^ m) 1 m (fun β => !X β && Y β)) := by
  have hns := h.ns (by have : 0 ≤ 2 ^ k := Nat.zero_le _; omega)
  have hc1 := h.c1
  have q := bless_spec (by omega) (by omega) h.bd h.fine.wf (by omega) hx.is hy.is h.c0 (by omega)
  rw [opG_no hns] at q
  obtain ⟨r, hr⟩ : ∃ r, iteT (k : Int) B st x 0 y = r := ⟨_, rfl⟩
  obtain ⟨g1, g2, g3, g4, g5⟩ := dg_ite h hk8 hx (num0 st) hy lx (late_low m (by omega)) ly room hr
  rw [hr] at q
  refine q.mono ?_
  rintro e W' ⟨he, hb⟩
  exact op_one h hz he hb.out g1 g2 g3 (g4.congr fun β => by cases X β <;> simp) g5
theorem Dg.not (h : Dg z W k d B st kc calls F) (hz : z ≤ W.heap.size) (hk8 : k ≤ 8) (hkc : kc ≤ 90000) (room : ((st.n + 2 ^ k : Nat) : Int) < B) {x : Int} {X : (Nat → Bool) → Bool} (hx : Num st x X) {m : Nat} (lx : Late (k : Int) st m x) :
    Calls Try.prog 31 #[.pointer (some ⟨d, 0, none⟩), .int .i64 x] W (OpTo z W k d B st kc F (2 ^ m) 1 m (fun β => !X β)) := by
  have hns := h.ns (by have : 0 ≤ 2 ^ k := Nat.zero_le _; omega)
  have hc1 := h.c1
  have q := bnot_spec (by omega) (by omega) h.bd h.fine.wf (by omega) hx.is h.c0 (by omega)
  rw [opG_no hns] at q
  obtain ⟨r, hr⟩ : ∃ r, iteT (k : Int) B st x 0 1 = r := ⟨_, rfl⟩
  obtain ⟨g1, g2, g3, g4, g5⟩ := dg_ite h hk8 hx (num0 st) (num1 st) lx (late_low m (by omega)) (late_low m (by omega)) room hr
  rw [hr] at q
  refine q.mono ?_
  rintro e W' ⟨he, hb⟩
  exact op_one h hz he hb.out g1 g2 g3 (g4.congr fun β => by cases X β <;> rfl) g5
theorem Dg.ite (h : Dg z W k d B st kc calls F) (hz : z ≤ W.heap.size) (hk8 : k ≤ 8) (hkc : kc ≤ 90000) (room : ((st.n + 2 ^ k : Nat) : Int) < B) {x y u : Int} {X Y U : (Nat → Bool) → Bool} (hx : Num st x X) (hy : Num st y Y) (hu : Num st u U) {m : Nat} (lx : Late (k : Int) st m x) (ly : Late (k : Int) st m y) (lu : Late (k : Int) st m u) :
    Calls Try.prog 29 #[.pointer (some ⟨d, 0, none⟩), .int .i64 x, .int .i64 y, .int .i64 u] W (OpTo z W k d B st kc F (2 ^ m) 1 m (fun β => if X β then Y β else U β)) := by
  have hns := h.ns (by have : 0 ≤ 2 ^ k := Nat.zero_le _; omega)
  have hc1 := h.c1
  have q := bite_spec (by omega) (by omega) h.bd h.fine.wf (by omega) hx.is hy.is hu.is h.c0 (by omega)
  rw [opG_no hns] at q
  obtain ⟨r, hr⟩ : ∃ r, iteT (k : Int) B st x y u = r := ⟨_, rfl⟩
  obtain ⟨g1, g2, g3, g4, g5⟩ := dg_ite h hk8 hx hy hu lx ly lu room hr
  rw [hr] at q
  refine q.mono ?_
  rintro e W' ⟨he, hb⟩
  exact op_one h hz he hb.out g1 g2 g3 g4 g5
theorem late_lit {V : Int} {st : St} (g : NodePlain.Good V st.L st.n) {k v : Nat} (hk : V = (k : Int)) (hv : v < k) (hs : (makeM V B st v 0 1).2.s = false) : Late V (makeM V B st v 0 1).2 (k - v) (makeM V B st v 0 1).1 := by
  have low : ∀ x : Int, x < 2 → varN V st.L st.n x = V := fun x hx => var_low hx
  have hf : fitN V st.L st.n v 0 1 = true := by
    rw [fitN_iff, low 0 (by omega), low 1 (by omega)]
    omega
  obtain ⟨_, _, _, _, h5⟩ := make_ok (B := B) g hf
  have hs2 : (resN V B st.L st.n v 0 1).out false = false := by
    have hs1 : (resN V B st.L st.n v 0 1).out st.s = false := hs
    revert hs1
    cases resN V B st.L st.n v 0 1 <;> simp [Res.out]
  have h6 : (v : Int) ≤ varN V (makeM V B st v 0 1).2.L (makeM V B st v 0 1).2.n (makeM V B st v 0 1).1 := (h5 hs2).1
  unfold Late
  omega
theorem Dg.lit (h : Dg z W k d B st kc calls F) (hz : z ≤ W.heap.size) (hk8 : k ≤ 8) (hkc : kc ≤ 90000) (room : ((st.n + 1 : Nat) : Int) < B) {v : Nat} (hv : v < k) :
    Calls Try.prog 27 #[.pointer (some ⟨d, 0, none⟩), .int .i64 v] W (OpTo z W k d B st kc F 1 1 (k - v) (fun β => β v)) := by
  have hns := h.ns (by omega)
  have hc1 := h.c1
  have q := blit_spec h.bd h.fine.wf (by omega) (v := (v : Int)) (by omega) (by omega) h.c0 (by omega)
  obtain ⟨g1, g2, g3, g4, g5⟩ := lit_fine h.fine (k := k) rfl hv room (r := opG st (makeM (k : Int) B st v 0 1)) rfl
  rw [opG_no hns] at q g1 g2 g3 g4 g5
  have hs : (makeM (k : Int) B st v 0 1).2.s = false := by
    cases e : (makeM (k : Int) B st v 0 1).2.s with
    | false => rfl
    | true => have := g1.bnd.2 e; omega
  refine q.mono ?_
  rintro e W' ⟨he, hb⟩
  exact op_one h hz he hb.out g1 g3 g4 ⟨g2, g5⟩ (late_lit h.good rfl hv hs)
theorem numRow2c {a b : Int} : NumRow (W.alloc (.cells #[.int .i64 a, .int .i64 b] 3)) (some ⟨W.heap.size, 0, none⟩) [a, b] := fun _ => by
  have hal := (MapKept.heap_alloc W (.cells #[.int .i64 a, .int .i64 b] 3)).1
  refine ⟨_, rfl, lt_of_heap hal, fun i x hx => ?_⟩
  rw [cell_of_heap hal]
  match i, hx with
  | 0, hx => simp only [List.getElem?_cons_zero, Option.some.injEq] at hx; subst hx; rfl
  | 1, hx => simp only [List.getElem?_cons_zero, List.getElem?_cons_succ, Option.some.injEq] at hx; subst hx; rfl
/-- And, Or of two, in a row that is made for the call. -/
theorem Dg.and2 (h : Dg z W k d B st kc calls F) (hz : z ≤ W.heap.size) (hk8 : k ≤ 8) (hkc : kc ≤ 90000) (room : ((st.n + 2 * 2 ^ k : Nat) : Int) < B) {x y : Int} {X Y : (Nat → Bool) → Bool} (hx : Num st x X) (hy : Num st y Y) {m : Nat} (hm : m ≤ k) (lx : Late (k : Int) st m x) (ly : Late (k : Int) st m y) :
    Calls Try.prog 32 #[.pointer (some ⟨d, 0, none⟩), .slice (some ⟨W.heap.size, 0, none⟩) 2 2] (W.alloc (.cells #[.int .i64 x, .int .i64 y] 3)) (OpTo z W k d B st kc F (2 * 2 ^ m) 2 m (fun β => X β && Y β)) := by
  have hp : 2 ^ m ≤ 2 ^ k := Nat.pow_le_pow_right (by omega) hm
  have hns := h.ns (by have : 0 ≤ 2 ^ k := Nat.zero_le _; omega)
  have hc1 := h.c1
  have hc0 := h.c0
  have hk2 : Keeps (fun _ => False) W (W.alloc (.cells #[.int .i64 x, .int .i64 y] 3)) := (Keeps.refl _ _).alloc _
  have q := band_spec (by omega) (by omega) (h.bd.quiet hk2) h.fine.wf (by omega) (l := [x, y]) (by intro z hz; simp only [List.mem_cons, List.not_mem_nil, or_false] at hz; rcases hz with rfl | rfl; exact hx.is; exact hy.is) (n := 2) rfl (Nat.le_refl 2) (by omega) numRow2c (fun b e hF => by simp only [Option.some.injEq, Addr.mk.injEq, and_true] at e; have := h.bd.lt b hF; omega) hc0 (by omega)
  rw [opG_no hns] at q
  obtain ⟨r1, hr1⟩ : ∃ r, iteT (k : Int) B st x 1 0 = r := ⟨_, rfl⟩
  obtain ⟨g1, g2, g3, g4, g5⟩ := dg_ite h hk8 hx (num1 st) (num0 st) lx (late_low m (by omega)) (late_low m (by omega)) (by omega) hr1
  obtain ⟨r2, hr2⟩ : ∃ r, iteT (k : Int) B r1.2 y r1.1 0 = r := ⟨_, rfl⟩
  have hy1 := hy.ext g3 h.good
  obtain ⟨h1, h2, h3, h4, h5, h6, h7⟩ := ite_late (by omega) (by omega) g1 hy1.is g4.is (is0 _) (ly.ext g3 hy.is) g5 (late_low m (by omega)) (by simp only [Int.toNat_natCast]; omega) hr2
  have e : andT (k : Int) B [x, y] (1, st) = r2 := by
    show iteT (k : Int) B (iteT (k : Int) B st x 1 0).2 y (iteT (k : Int) B st x 1 0).1 0 = r2
    rw [hr1, hr2]
  rw [e] at q
  refine q.mono ?_
  rintro e W' ⟨he, hb⟩
  obtain ⟨F', b1, b2⟩ := hb.out
  have b3 := (Mv.quiet hk2 (Fp := F)).trans b2
  refine ⟨r2.1, r2.2, kc + 2, calls + 2, F', he, ⟨⟨b1, h1, by omega, by omega, fun x hx => (b3.fp x hx).elim (h.fw x) (fun hx => Nat.le_trans hz hx)⟩, b3, g3.trans h4, by omega, Nat.le_refl _⟩, ⟨h2, fun β => ?_⟩, h6⟩
  rw [h7, hy1.ev, g4.ev, ev0]
  cases X β <;> cases Y β <;> rfl
theorem Dg.or2 (h : Dg z W k d B st kc calls F) (hz : z ≤ W.heap.size) (hk8 : k ≤ 8) (hkc : kc ≤ 90000) (room : ((st.n + 2 * 2 ^ k : Nat) : Int) < B) {x y : Int} {X Y : (Nat → Bool) → Bool} (hx : Num st x X) (hy : Num st y Y) {m : Nat} (hm : m ≤ k) (lx : Late (k : Int) st m x) (ly : Late (k : Int) st m y) :
    Calls Try.prog 33 #[.pointer (some ⟨d, 0, none⟩), .slice (some ⟨W.heap.size, 0, none⟩) 2 2] (W.alloc (.cells #[.int .i64 x, .int .i64 y] 3)) (OpTo z W k d B st kc F (2 * 2 ^ m) 2 m (fun β => X β || Y β)) := by
  have hp : 2 ^ m ≤ 2 ^ k := Nat.pow_le_pow_right (by omega) hm
  have hns := h.ns (by have : 0 ≤ 2 ^ k := Nat.zero_le _; omega)
  have hc1 := h.c1
  have hc0 := h.c0
  have hk2 : Keeps (fun _ => False) W (W.alloc (.cells #[.int .i64 x, .int .i64 y] 3)) := (Keeps.refl _ _).alloc _
  have q := bor_spec (by omega) (by omega) (h.bd.quiet hk2) h.fine.wf (by omega) (l := [x, y]) (by intro z hz; simp only [List.mem_cons, List.not_mem_nil, or_false] at hz; rcases hz with rfl | rfl; exact hx.is; exact hy.is) (n := 2) rfl (Nat.le_refl 2) (by omega) numRow2c (fun b e hF => by simp only [Option.some.injEq, Addr.mk.injEq, and_true] at e; have := h.bd.lt b hF; omega) hc0 (by omega)
  rw [opG_no hns] at q
  obtain ⟨r1, hr1⟩ : ∃ r, iteT (k : Int) B st x 1 0 = r := ⟨_, rfl⟩
  obtain ⟨g1, g2, g3, g4, g5⟩ := dg_ite h hk8 hx (num1 st) (num0 st) lx (late_low m (by omega)) (late_low m (by omega)) (by omega) hr1
  obtain ⟨r2, hr2⟩ : ∃ r, iteT (k : Int) B r1.2 y 1 r1.1 = r := ⟨_, rfl⟩
  have hy1 := hy.ext g3 h.good
  obtain ⟨h1, h2, h3, h4, h5, h6, h7⟩ := ite_late (by omega) (by omega) g1 hy1.is (is1 _) g4.is (ly.ext g3 hy.is) (late_low m (by omega)) g5 (by simp only [Int.toNat_natCast]; omega) hr2
  have e : orT (k : Int) B [x, y] (0, st) = r2 := by
    show iteT (k : Int) B (iteT (k : Int) B st x 1 0).2 y 1 (iteT (k : Int) B st x 1 0).1 = r2
    rw [hr1, hr2]
  rw [e] at q
  refine q.mono ?_
  rintro e W' ⟨he, hb⟩
  obtain ⟨F', b1, b2⟩ := hb.out
  have b3 := (Mv.quiet hk2 (Fp := F)).trans b2
  refine ⟨r2.1, r2.2, kc + 2, calls + 2, F', he, ⟨⟨b1, h1, by omega, by omega, fun x hx => (b3.fp x hx).elim (h.fw x) (fun hx => Nat.le_trans hz hx)⟩, b3, g3.trans h4, by omega, Nat.le_refl _⟩, ⟨h2, fun β => ?_⟩, h6⟩
  rw [h7, hy1.ev, g4.ev, ev1]
  cases X β <;> cases Y β <;> rfl
end
end Go.Proofs.Ytloidoekmicloaa
