/-
  A diagram by variables in another order: the walk of the closure.
-/
import Derived.Test.YtipcgjigkipcpaaMG
import Derived.Test.YtipcgjigkipcpaaMD
import Derived.Test.YtipcgjigkipcpaaOrdRight
import Derived.Deep.RegionWith
import Derived.Deep.RegionHeld3
set_option linter.unusedVariables false
set_option linter.unusedSimpArgs false
set_option linter.unnecessarySimpa false
namespace Go.Proofs.Ytipcgjigkipcpaa
open Go.ChangeShapes Go.WideShapes Go.ChangeAt Go.RowKit Go.Deep NodePlain
def fnM (kb dx wx lx : Nat) : Value := .func (.func 70) #[] #[.pointer (some ⟨kb, 0, none⟩), .pointer (some ⟨dx, 0, none⟩), .pointer (some ⟨wx, 0, none⟩), .pointer (some ⟨lx, 0, none⟩)]
/-- The blocks that may turn. -/
def Qf (Fp : Nat → Prop) (mb : Nat) : Nat → Prop := fun y => Fp y ∨ y = mb
/-- What the closure captured, and the maker. -/
structure MvMem (W : World) (db mb : Nat) (V B : Int) (st : St) (calls : Int) (Fp : Nat → Prop) (N : Nat) (K : Int → Option Int) (kb dx wx lx : Nat) (ao : Option Addr) (cap : Nat) (l : List Int) : Prop where
  bd : Bd W db V B st calls Fp
  mp : IMap W mb N K
  c1 : W.cell? ⟨kb, 0, none⟩ = some (.map (some mb))
  c2 : W.cell? ⟨dx, 0, none⟩ = some (.pointer (some ⟨db, 0, none⟩))
  c3 : W.cell? ⟨wx, 0, none⟩ = some (fnM kb dx wx lx)
  c4 : W.cell? ⟨lx, 0, none⟩ = some (.slice ao l.length cap)
  le : l.length ≤ cap
  f0 : ¬ Fp mb
  n1 : ¬ Qf Fp mb kb
  n2 : ¬ Qf Fp mb dx
  n3 : ¬ Qf Fp mb wx
  n4 : ¬ Qf Fp mb lx
  row : 0 < l.length → ∃ g off, ao = some ⟨g, off, none⟩ ∧ ¬ Qf Fp mb g ∧ g < W.heap.size ∧ ∀ (j : Nat) (x : Int), l[j]? = some x → W.cell? ⟨g, off + j, none⟩ = some (.int .i64 x)
section
variable {W W' : World} {db mb : Nat} {V B : Int} {st st' : St} {calls calls' : Int} {Fp Fp' : Nat → Prop} {N N' : Nat} {K K' : Int → Option Int} {kb dx wx lx : Nat} {ao : Option Addr} {cap : Nat} {l : List Int}
theorem MvMem.move (h : MvMem W db mb V B st calls Fp N K kb dx wx lx ao cap l) (hb : Bd W' db V B st' calls' Fp') (hm : IMap W' mb N' K') (m : Mv W W' (Qf Fp mb) (Qf Fp' mb)) (hf : ¬ Fp' mb) : MvMem W' db mb V B st' calls' Fp' N' K' kb dx wx lx ao cap l := by
  have nn : ∀ {x : Nat} {v : Value}, W.cell? ⟨x, 0, none⟩ = some v → ¬ Qf Fp mb x → ¬ Qf Fp' mb x := fun {x v} hx hn hq => by
    rcases m.fp x hq with e | e
    · exact hn e
    · have := lt_of_cell hx; simp only [] at this; omega
  refine ⟨hb, hm, (m.keeps.cell (p := ⟨kb, 0, none⟩) (lt_of_cell h.c1) h.n1).trans h.c1, (m.keeps.cell (p := ⟨dx, 0, none⟩) (lt_of_cell h.c2) h.n2).trans h.c2, (m.keeps.cell (p := ⟨wx, 0, none⟩) (lt_of_cell h.c3) h.n3).trans h.c3, (m.keeps.cell (p := ⟨lx, 0, none⟩) (lt_of_cell h.c4) h.n4).trans h.c4, h.le, hf, nn h.c1 h.n1, nn h.c2 h.n2, nn h.c3 h.n3, nn h.c4 h.n4, fun h0 => ?_⟩
  obtain ⟨g, off, q0, q1, q2, q3⟩ := h.row h0
  refine ⟨g, off, q0, fun hq => ?_, Nat.lt_of_lt_of_le q2 m.keeps.size, fun j x hx => (m.keeps.cell (p := ⟨g, off + j, none⟩) q2 q1).trans (q3 j x hx)⟩
  rcases m.fp g hq with e | e
  · exact q1 e
  · omega
theorem MvMem.quiet (h : MvMem W db mb V B st calls Fp N K kb dx wx lx ao cap l) (hk : Keeps (fun _ => False) W W') : MvMem W' db mb V B st calls Fp N K kb dx wx lx ao cap l :=
  h.move (h.bd.quiet hk) (h.mp.keeps hk (fun x => x)) (Mv.quiet hk) h.f0
/-- Behind a call of the maker's own. -/
theorem MvMem.made (h : MvMem W db mb V B st calls Fp N K kb dx wx lx ao cap l) (hb : BdTo db V B st' calls' W Fp W') : ∃ Fp', MvMem W' db mb V B st' calls' Fp' N K kb dx wx lx ao cap l ∧ Mv W W' (Qf Fp mb) (Qf Fp' mb) := by
  obtain ⟨Fp', h1, m⟩ := hb
  have hf : ¬ Fp' mb := fun hq => by
    rcases m.fp mb hq with e | e
    · exact h.f0 e
    · have := h.mp.lt; omega
  have m' : Mv W W' (Qf Fp mb) (Qf Fp' mb) := ⟨m.keeps.mono (fun k _ hk => .inl hk), fun x hx => by
    rcases hx with e | e
    · exact (m.fp x e).imp .inl id
    · exact .inl (.inr e)⟩
  exact ⟨Fp', h.move h1 (h.mp.keeps m.keeps h.f0) m' hf, m'⟩
/-- What a look leaves in memory. -/
def MvPost (W : World) (db mb : Nat) (V B : Int) (st : St) (calls : Int) (Fp : Nat → Prop) (N : Nat) (kb dx wx lx : Nat) (ao : Option Addr) (cap : Nat) (l : List Int) (P : Nat → Nat) (kc : Nat) (f : Int) (e : Ending) (W' : World) : Prop :=
  ∃ x st' kc' calls' N' K' Fp', e = .returned (.int .i64 x) ∧ Hid (MvMem W' db mb V B st' calls' Fp' N' K' kb dx wx lx ao cap l) ∧ Hid (Mv W W' (Qf Fp mb) (Qf Fp' mb)) ∧ Hid (MvRel V B P st kc f x st' kc' K') ∧
    Hid (0 ≤ calls' ∧ calls' ≤ calls + 2 * (costN V (varN V st.L st.n f) : Int) ∧ N' ≤ N + costN V (varN V st.L st.n f))
/-- What is asked ahead of a look. -/
structure MvPre (V B : Int) (P : Nat → Nat) (st : St) (kc : Nat) (calls : Int) (N : Nat) (K : Int → Option Int) (f : Int) : Prop where
  isf : isN st.n f = true
  wf : Wf V st kc
  bnd : st.n ≤ B ∧ (st.s = true → B ≤ st.n)
  snd : KSound P st K
  kc : kc + 2 * costN V (varN V st.L st.n f) ≤ 28700
  c0 : 0 ≤ calls
  c1 : calls + 2 * (costN V (varN V st.L st.n f) : Int) ≤ 900000
  N : N + costN V (varN V st.L st.n f) ≤ 1000000
  room : ((st.n + 2 ^ V.toNat * costN V (varN V st.L st.n f) : Nat) : Int) < B
theorem MvPre.lo {P : Nat → Nat} {kc : Nat} {i v : Nat} {lo hi' : Int} (h : MvPre V B P st kc calls N K ((i : Int) + 2)) (hi : i < st.n) (hL : st.L i = ((v : Int), lo, hi')) : MvPre V B P st kc calls N K lo := by
  obtain ⟨p1, p2, p3, p4, p5, p6, p7, p8, p9⟩ := h.wf.ok.good.node i hi
  rw [hL] at p1 p2 p3 p4 p5 p6 p7 p8 p9
  simp only [] at p1 p2 p3 p4 p5 p6 p7 p8 p9
  have hvar : varN V st.L st.n ((i : Int) + 2) = v := by rw [var_node hi, hL]
  have hc := cost_step p2 p7 p8
  have a1 := h.kc
  have a2 := h.c1
  have a3 := h.N
  have a4 := h.room
  rw [hvar] at a1 a2 a3 a4
  have hm := Nat.mul_le_mul_left (2 ^ V.toNat) (show costN V (varN V st.L st.n lo) ≤ costN V v by omega)
  exact ⟨isN_iff.2 ⟨p3, by omega⟩, h.wf, h.bnd, h.snd, by omega, h.c0, by omega, by omega, by omega⟩
theorem MvPre.hi {P : Nat → Nat} {kc k1 : Nat} {i v : Nat} {lo hi' x calls1 : Int} {s1 : St} {N1 : Nat} {K1 : Int → Option Int} (h : MvPre V B P st kc calls N K ((i : Int) + 2)) (hi : i < st.n) (hL : st.L i = ((v : Int), lo, hi'))
    (r : MvRel V B P st kc lo x s1 k1 K1) (hc0 : 0 ≤ calls1) (hc1 : calls1 ≤ calls + 2 * (costN V (varN V st.L st.n lo) : Int)) (hN : N1 ≤ N + costN V (varN V st.L st.n lo)) : MvPre V B P s1 k1 calls1 N1 K1 hi' := by
  obtain ⟨p1, p2, p3, p4, p5, p6, p7, p8, p9⟩ := h.wf.ok.good.node i hi
  rw [hL] at p1 p2 p3 p4 p5 p6 p7 p8 p9
  simp only [] at p1 p2 p3 p4 p5 p6 p7 p8 p9
  have hvar : varN V st.L st.n ((i : Int) + 2) = v := by rw [var_node hi, hL]
  have hc := cost_step p2 p7 p8
  have a1 := h.kc
  have a2 := h.c1
  have a3 := h.N
  have a4 := h.room
  rw [hvar] at a1 a2 a3 a4
  have hvy : varN V s1.L s1.n hi' = varN V st.L st.n hi' := r.ext.var (by omega)
  have hm := Nat.mul_le_mul_left (2 ^ V.toNat) (show costN V (varN V st.L st.n lo) + costN V (varN V st.L st.n hi') ≤ costN V v by omega)
  rw [Nat.mul_add] at hm
  have b1 := r.kc
  have b2 := r.n
  exact ⟨r.ext.is (isN_iff.2 ⟨p5, by omega⟩), r.wf, r.bnd, r.snd, by rw [hvy]; omega, hc0, by rw [hvy]; omega, by rw [hvy]; omega, by rw [hvy]; omega⟩
set_option maxRecDepth 100000
set_option maxHeartbeats 3200000
theorem move_spec (hV0 : 0 ≤ V) (hV : V ≤ 8) {k : Nat} (hkV : V = (k : Int)) {P : Nat → Nat} (hP : ∀ v : Nat, v < k → l[v]? = some ((P v : Nat) : Int) ∧ P v < k) (m : Nat) : ∀ (f : Int), f.toNat = m → ∀ (W : World) (st : St) (kc : Nat) (calls : Int) (Fp : Nat → Prop) (N : Nat) (K : Int → Option Int),
    MvMem W db mb V B st calls Fp N K kb dx wx lx ao cap l → MvPre V B P st kc calls N K f →
    Calls Try.prog 70 #[.int .i64 f, .pointer (some ⟨kb, 0, none⟩), .pointer (some ⟨dx, 0, none⟩), .pointer (some ⟨wx, 0, none⟩), .pointer (some ⟨lx, 0, none⟩)] W (MvPost W db mb V B st calls Fp N kb dx wx lx ao cap l P kc f) := by
  induction m using Nat.strongRecOn with
  | _ m ih =>
  intro f hfm W st kc calls Fp N K hM hR
  have IH := Lib.hid ih
  clear ih
  have hn6 : st.n ≤ 10000000 := by have := hR.wf.n; have := hR.kc; omega
  have hf0 := (isN_iff.1 hR.isf).1
  have hf1 := (isN_iff.1 hR.isf).2
  have hf2 : f ≤ 10000002 := by omega
  have HM := Lib.hid hM
  have HR := Lib.hid hR
  have c1 := hM.c1
  have hlook := hM.mp.look (x := f) (by omega) (by omega)
  clear hM hR
  cases hK : K f with
  | some x =>
    rw [hK] at hlook
    simp only [Option.getD_some, Option.isSome_some] at hlook
    have HP : Hid (MvPost W db mb V B st calls Fp N kb dx wx lx ao cap l P kc f (.returned (.int .i64 x)) W) :=
      ⟨x, st, kc, calls, N, K, Fp, rfl, HM, Mv.refl _ _, mv_known HR.out.wf HR.out.bnd HR.out.snd hK, HR.out.c0, by omega, Nat.le_add_right _ _⟩
    clear IH HM HR hK
    go_enter Try.func70, Try.ntmps70
    go_wp2_with fail
    go_ret
    exact HP.out
  | none =>
    rw [hK] at hlook
    simp only [Option.getD_none, Option.isSome_none] at hlook
    have h01 : f ≠ 0 ∧ f ≠ 1 := ⟨fun e => (by subst e; rw [HR.out.snd.z] at hK; cases hK), fun e => (by subst e; rw [HR.out.snd.o] at hK; cases hK)⟩
    obtain ⟨i, rfl⟩ : ∃ i : Nat, f = (i : Int) + 2 := ⟨(f - 2).toNat, by omega⟩
    have hi : i < st.n := by omega
    obtain ⟨⟨vi, lo, hi'⟩, hL⟩ : ∃ p, st.L i = p := ⟨_, rfl⟩
    obtain ⟨p1, p2, p3, p4, p5, p6, p7, p8, p9⟩ := HR.out.wf.ok.good.node i hi
    rw [hL] at p1 p2 p3 p4 p5 p6 p7 p8 p9
    simp only [] at p1 p2 p3 p4 p5 p6 p7 p8 p9
    obtain ⟨v, rfl⟩ := Int.eq_ofNat_of_zero_le p1
    have hvk : v < k := by omega
    obtain ⟨hPv, hPk⟩ := hP v hvk
    have hget : getN st.L st.n ((i : Int) + 2) = some ((v : Int), lo, hi') := by unfold getN; rw [if_pos ⟨by omega, hf1⟩, show ((i : Int) + 2 - 2).toNat = i from by omega, hL]
    have hvar : varN V st.L st.n ((i : Int) + 2) = v := by rw [var_node hi, hL]
    have HMD : Hid (∀ W', Keeps (fun _ => False) W W' → Calls Try.prog 65 #[.pointer (some ⟨db, 0, none⟩), .int .i64 ((i : Int) + 2)] W' fun e W2 => e = .returned (.tuple #[.agg #[.int .i64 v, .int .i64 lo, .int .i64 hi'], .bool true]) ∧ Below W'.heap.size W' W2) := fun W' hk => by
      have q := bmade_spec (HM.out.bd.quiet hk) (by omega) ((i : Int) + 2) (by omega) (by omega)
      rw [hget] at q
      exact q
    have HLI := Lib.hid hL
    have HPV := Lib.hid hPv
    have HPK := Lib.hid hPk
    have HC := Lib.hid (cost_step p2 p7 p8)
    have HV := Lib.hid (And.intro hvar (And.intro p2 (And.intro p7 p8)))
    have c2 := HM.out.c2
    clear hL hget hPv hPk hvar p2 p7 p8 p9 hK
    go_enter Try.func70, Try.ntmps70
    go_wp2_with (go_at_call 65; refine (HMD.out _ (Keeps.refl _ _)).mono ?_; rintro e wA ⟨rfl, hbA⟩)
    have hkA : Keeps (fun _ => False) W wA := Keeps.of_below hbA (Nat.le_refl _)
    have hal := (MapKept.heap_alloc wA (.cells #[.int .i64 v, .int .i64 lo, .int .i64 hi'] 101)).1
    have hk5 : Keeps (fun _ => False) W (wA.alloc (.cells #[.int .i64 v, .int .i64 lo, .int .i64 hi'] 101)) := hkA.alloc _
    have HXB : Hid (¬ Qf Fp mb wA.heap.size) := fun hq => by
      have hs := hkA.size
      rcases hq with e | e
      · have := HM.out.bd.lt _ e; omega
      · have := HM.out.mp.lt; omega
    have M5 := Lib.hid (HM.out.quiet hk5)
    have HK5 := Lib.hid hk5
    have HAL := Lib.hid hal
    clear hbA HMD c1 c2 hlook hkA hk5
    generalize hw5 : wA.alloc (.cells #[.int .i64 v, .int .i64 lo, .int .i64 hi'] 101) = w5 at *
    clear hw5 hal
    have HS5 : Hid (∀ W', Mv w5 W' (Qf Fp mb) (Qf Fp mb) ∨ True → Keeps (Qf Fp mb) w5 W' → (fun w' => w'.cell? ⟨wx, 0, none⟩ = some (.func (.func 70) #[] #[.pointer (some ⟨kb, 0, none⟩), .pointer (some ⟨dx, 0, none⟩), .pointer (some ⟨wx, 0, none⟩), .pointer (some ⟨lx, 0, none⟩)]) ∧ w'.cell? ⟨wA.heap.size, 1, none⟩ = some (.int .i64 lo) ∧ w'.cell? ⟨wA.heap.size, 2, none⟩ = some (.int .i64 hi')) W') := fun W' _ hk => by
      have e := (hk.block _ (lt_of_heap HAL.out) HXB.out).trans HAL.out
      exact ⟨(hk.cell (p := ⟨wx, 0, none⟩) (lt_of_cell M5.out.c3) M5.out.n3).trans M5.out.c3, by rw [cell_of_heap e]; rfl, by rw [cell_of_heap e]; rfl⟩
    have H5 : (fun w' => w'.cell? ⟨wx, 0, none⟩ = some (.func (.func 70) #[] #[.pointer (some ⟨kb, 0, none⟩), .pointer (some ⟨dx, 0, none⟩), .pointer (some ⟨wx, 0, none⟩), .pointer (some ⟨lx, 0, none⟩)]) ∧ w'.cell? ⟨wA.heap.size, 1, none⟩ = some (.int .i64 lo) ∧ w'.cell? ⟨wA.heap.size, 2, none⟩ = some (.int .i64 hi')) w5.drew := HS5.out _ (.inr trivial) ((Keeps.refl _ _).drew)
    have HCL : Hid (∀ (W' : World) (st' : St) (kc' : Nat) (calls' : Int) (Fp' : Nat → Prop) (N' : Nat) (K' : Int → Option Int) (f' : Int), f'.toNat < m → MvMem W' db mb V B st' calls' Fp' N' K' kb dx wx lx ao cap l → MvPre V B P st' kc' calls' N' K' f' → Calls Try.prog 70 #[.int .i64 f', .pointer (some ⟨kb, 0, none⟩), .pointer (some ⟨dx, 0, none⟩), .pointer (some ⟨wx, 0, none⟩), .pointer (some ⟨lx, 0, none⟩)] W' (MvPost W' db mb V B st' calls' Fp' N' kb dx wx lx ao cap l P kc' f')) := fun W' st' kc' calls' Fp' N' K' f' hf hm hp => IH.out f'.toNat hf f' rfl W' st' kc' calls' Fp' N' K' hm hp
    have hlt1 : lo.toNat < m := by omega
    have hlt2 : hi'.toNat < m := by omega
    refine wp_region_noPanic ?_
    refine wp_region_held_drew (S := (fun w' => w'.cell? ⟨wx, 0, none⟩ = some (.func (.func 70) #[] #[.pointer (some ⟨kb, 0, none⟩), .pointer (some ⟨dx, 0, none⟩), .pointer (some ⟨wx, 0, none⟩), .pointer (some ⟨lx, 0, none⟩)]) ∧ w'.cell? ⟨wA.heap.size, 1, none⟩ = some (.int .i64 lo) ∧ w'.cell? ⟨wA.heap.size, 2, none⟩ = some (.int .i64 hi'))) (by kernel_rfl) H5 (fun hHeld => ?_)
    refine wpAnyH_take_at (i := 0) (v := ?v0a) rfl (by kernel_rfl) (by kernel_rfl) (by kernel_rfl) (fun _ _ _ h => h) (Or.inl ⟨by rfl, ?y0a⟩) hHeld ?r0a
    case y0a => (intro w hSw; (try dsimp only at hSw); go_simp; first | done | with_reducible rfl)
    (try simp only [Act.put, List.setIfInBounds_toArray, List.set_cons_zero, List.set_cons_succ])
    refine wpAnyH_take_at (i := 1) (v := ?v1a) rfl (by kernel_rfl) (by kernel_rfl) (by kernel_rfl) (fun _ _ _ h => h) (Or.inl ⟨by rfl, ?y1a⟩) hHeld ?r1a
    case y1a => (intro w hSw; (try dsimp only at hSw); go_simp; first | done | with_reducible rfl)
    (try simp only [Act.put, List.setIfInBounds_toArray, List.set_cons_zero, List.set_cons_succ])
    refine wpAnyH_take_at (i := 2) (v := ?v2a) rfl (by kernel_rfl) (by kernel_rfl) (by kernel_rfl) (fun _ _ _ h => h) (Or.inl ⟨by rfl, ?y2a⟩) hHeld ?r2a
    case y2a => (intro w hSw; (try dsimp only at hSw); go_simp; first | done | with_reducible rfl)
    (try simp only [Act.put, List.setIfInBounds_toArray, List.set_cons_zero, List.set_cons_succ])
    refine wpAnyH_take_at (i := 4) (v := ?v4a) rfl (by kernel_rfl) (by kernel_rfl) (by kernel_rfl) (fun _ _ _ h => h) (Or.inl ⟨by rfl, ?y4a⟩) hHeld ?r4a
    case y4a => (intro w hSw; (try dsimp only at hSw); go_simp; first | done | with_reducible rfl)
    (try simp only [Act.put, List.setIfInBounds_toArray, List.set_cons_zero, List.set_cons_succ])
    refine wpAnyH_take_at (i := 5) (v := ?v5a) rfl (by kernel_rfl) (by kernel_rfl) (by kernel_rfl) (fun _ _ _ h => h) (Or.inl ⟨by rfl, ?y5a⟩) hHeld ?r5a
    case y5a => (intro w hSw; (try dsimp only at hSw); go_simp; first | done | with_reducible rfl)
    (try simp only [Act.put, List.setIfInBounds_toArray, List.set_cons_zero, List.set_cons_succ])
    refine wpAnyH_take_at (i := 6) (v := ?v6a) rfl (by kernel_rfl) (by kernel_rfl) (by kernel_rfl) (fun _ _ _ h => h) (Or.inl ⟨by rfl, ?y6a⟩) hHeld ?r6a
    case y6a => (intro w hSw; (try dsimp only at hSw); go_simp; first | done | with_reducible rfl)
    (try simp only [Act.put, List.setIfInBounds_toArray, List.set_cons_zero, List.set_cons_succ])
    refine wpAnyH_one (i := 3) (by kernel_rfl) rfl (fun KK hK => ?_)
    go_simp
    refine (HCL.out _ st kc calls Fp N K lo hlt1 (M5.out.quiet ((Keeps.refl _ _).drew)) (HR.out.lo hi HLI.out)).mono ?_
    rintro e wB ⟨x, s1, k1, q1, N1, K1, F1, rfl, MB, VB, RB, CB⟩
    go_simp
    have VB5 : Hid (Mv w5 wB (Qf Fp mb) (Qf F1 mb)) := (Mv.quiet (Fp := Qf Fp mb) ((Keeps.refl (fun _ => False) w5).drew)).trans VB.out
    refine hK.out _ _ ?s3a (fun hHeld => ?_)
    case s3a => exact HS5.out _ (.inr trivial) VB5.out.keeps
    clear hK KK
    (try simp only [Act.put, List.setIfInBounds_toArray, List.set_cons_zero, List.set_cons_succ])
    refine wpAnyH_one (i := 7) (by kernel_rfl) rfl (fun KK hK => ?_)
    go_simp
    refine (HCL.out _ s1 k1 q1 F1 N1 K1 hi' hlt2 MB.out (HR.out.hi hi HLI.out RB.out CB.out.1 CB.out.2.1 CB.out.2.2)).mono ?_
    rintro e wC ⟨y, s2, k2, q2, N2, K2, F2, rfl, MC, VC, RC, CC⟩
    go_simp
    have VC5 : Hid (Mv w5 wC (Qf Fp mb) (Qf F2 mb)) := VB5.out.trans VC.out
    refine hK.out _ _ ?s7a (fun hHeld => ?_)
    case s7a => exact HS5.out _ (.inr trivial) VC5.out.keeps
    clear hK KK
    (try simp only [Act.put, List.setIfInBounds_toArray, List.set_cons_zero, List.set_cons_succ])
    refine wpAnyH_take_at (i := 8) (v := ?v8a) rfl (by kernel_rfl) (by kernel_rfl) (by kernel_rfl) (fun _ _ _ h => h) (Or.inl ⟨by rfl, ?y8a⟩) hHeld ?r8a
    case y8a => (intro w hSw; (try dsimp only at hSw); go_simp; first | done | with_reducible rfl)
    (try simp only [Act.put, List.setIfInBounds_toArray, List.set_cons_zero, List.set_cons_succ])
    refine wpAnyH_take_at (i := 9) (v := ?v9a) rfl (by kernel_rfl) (by kernel_rfl) (by kernel_rfl) (fun _ _ _ h => h) (Or.inl ⟨by rfl, ?y9a⟩) hHeld ?r9a
    case y9a => (intro w hSw; (try dsimp only at hSw); go_simp; first | done | with_reducible rfl)
    (try simp only [Act.put, List.setIfInBounds_toArray, List.set_cons_zero, List.set_cons_succ])
    refine wpAnyH_done (by kernel_rfl) ?_ _
    refine NoPanic.normal ?_
    clear hHeld H5 HS5 HCL IH MB VB VC VB5
    go_upto_region 6 with fail
    have hv0 := HV.out
    have hroom := HR.out.room
    rw [hv0.1] at hroom
    obtain ⟨r3, hr3⟩ : ∃ r, opG s2 (makeM V B s2 (P v) 0 1) = r := ⟨_, rfl⟩
    obtain ⟨r4, hr4⟩ : ∃ r, opG r3.2 (iteT V B r3.2 r3.1 y x) = r := ⟨_, rfl⟩
    obtain ⟨j1, j2, j3, j4, j5, j6, j7⟩ := mv_joined hV0 hV hkV HR.out.wf hi HLI.out HPK.out RB.out RC.out hroom hr3 hr4
    have hkc := HR.out.kc
    have hcc1 := HR.out.c1
    have hNN := HR.out.N
    rw [hv0.1] at hkc hcc1 hNN
    have hcst := HC.out
    have hvy : varN V s1.L s1.n hi' = varN V st.L st.n hi' := RB.out.ext.var (by omega)
    have hCC := CC.out
    rw [hvy] at hCC
    have hCB := CB.out
    have hPk2 := HPK.out
    have HLT : Hid (∀ W', MvMem W' db mb V B s2 q2 F2 N2 K2 kb dx wx lx ao cap l → Calls Try.prog 19 #[.pointer (some ⟨db, 0, none⟩), .int .i64 (P v)] W' fun e W2 => ∃ F3, e = .returned (.int .i64 r3.1) ∧ Hid (MvMem W2 db mb V B r3.2 (q2 + 1) F3 N2 K2 kb dx wx lx ao cap l) ∧ Hid (Mv W' W2 (Qf F2 mb) (Qf F3 mb))) := fun W' hm => by
      have q := blit_spec hm.bd RC.out.wf (by omega) (v := ((P v : Nat) : Int)) (by omega) (by omega) hCC.1 (by omega)
      rw [hr3] at q
      refine q.mono fun e W2 ⟨h1, h2⟩ => ?_
      obtain ⟨F3, m1, m2⟩ := hm.made h2.out
      exact ⟨F3, h1, m1, m2⟩
    have HIT : Hid (∀ W' F3, MvMem W' db mb V B r3.2 (q2 + 1) F3 N2 K2 kb dx wx lx ao cap l → Calls Try.prog 56 #[.pointer (some ⟨db, 0, none⟩), .int .i64 r3.1, .int .i64 y, .int .i64 x] W' fun e W2 => ∃ F4, e = .returned (.int .i64 r4.1) ∧ Hid (MvMem W2 db mb V B r4.2 (q2 + 2) F4 N2 K2 kb dx wx lx ao cap l) ∧ Hid (Mv W' W2 (Qf F3 mb) (Qf F4 mb))) := fun W' F3 hm => by
      have q := bite_spec hV0 hV hm.bd j2 (by omega) j3 j4 j5 (by omega) (by omega)
      rw [hr4, show q2 + 1 + 1 = q2 + 2 from by omega] at q
      refine q.mono fun e W2 ⟨h1, h2⟩ => ?_
      obtain ⟨F4, m1, m2⟩ := hm.made h2.out
      exact ⟨F4, h1, m1, m2⟩
    have HREL : Hid (MvRel V B P st kc ((i : Int) + 2) r4.1 r4.2 (k2 + 2) (setK K2 ((i : Int) + 2) r4.1)) := j7
    have HCNT : Hid (0 ≤ q2 + 2 ∧ q2 + 2 ≤ calls + 2 * (costN V (varN V st.L st.n ((i : Int) + 2)) : Int) ∧ N2 + 1 ≤ N + costN V (varN V st.L st.n ((i : Int) + 2)) ∧ N2 < 1000000) := by rw [hv0.1]; exact ⟨by omega, by omega, by omega, by omega⟩
    have hu := isN_iff.1 j7.isx
    have hun := j7.wf.n
    have hu1 : r4.1 ≤ 100000000 := by omega
    have hu0 := hu.1
    have hl0 : 0 < l.length := by
      rcases Nat.eq_zero_or_pos l.length with e | e
      · have h := HPV.out; rw [List.getElem?_eq_none (by omega)] at h; cases h
      · exact e
    have hvl : v < l.length := by
      rcases Nat.lt_or_ge v l.length with e | e
      · exact e
      · have h := HPV.out; rw [List.getElem?_eq_none e] at h; cases h
    have hvcap : v < cap := by have := HM.out.le; omega
    have HXB2 : Hid (¬ Qf F2 mb wA.heap.size) := fun hq => by
      rcases VC5.out.fp _ hq with e | e
      · exact HXB.out e
      · have := lt_of_heap HAL.out; omega
    obtain ⟨g, off, hao, hg1, hg2, hgr⟩ := MC.out.row hl0
    subst hao
    have HS6 : Hid (∀ W', Keeps (Qf F2 mb) wC W' → (fun w' => w'.cell? ⟨dx, 0, none⟩ = some (.pointer (some ⟨db, 0, none⟩)) ∧ w'.cell? ⟨lx, 0, none⟩ = some (.slice (some ⟨g, off, none⟩) l.length cap) ∧ w'.cell? ⟨wA.heap.size, 0, none⟩ = some (.int .i64 v) ∧ w'.cell? ⟨g, off + v, none⟩ = some (.int .i64 (P v))) W') := fun W' hk => by
      have e := (hk.block _ (Nat.lt_of_lt_of_le (lt_of_heap HAL.out) VC5.out.keeps.size) HXB2.out).trans ((VC5.out.keeps.block _ (lt_of_heap HAL.out) HXB.out).trans HAL.out)
      exact ⟨(hk.cell (p := ⟨dx, 0, none⟩) (lt_of_cell MC.out.c2) MC.out.n2).trans MC.out.c2, (hk.cell (p := ⟨lx, 0, none⟩) (lt_of_cell MC.out.c4) MC.out.n4).trans MC.out.c4, by rw [cell_of_heap e]; rfl, (hk.cell (p := ⟨g, off + v, none⟩) hg2 hg1).trans (hgr v _ HPV.out)⟩
    have H6 : (fun w' => w'.cell? ⟨dx, 0, none⟩ = some (.pointer (some ⟨db, 0, none⟩)) ∧ w'.cell? ⟨lx, 0, none⟩ = some (.slice (some ⟨g, off, none⟩) l.length cap) ∧ w'.cell? ⟨wA.heap.size, 0, none⟩ = some (.int .i64 v) ∧ w'.cell? ⟨g, off + v, none⟩ = some (.int .i64 (P v))) wC.drew := HS6.out _ ((Keeps.refl _ _).drew)
    have HV0 : Hid (Mv W wC (Qf Fp mb) (Qf F2 mb)) := (Mv.quiet HK5.out).trans VC5.out
    clear hg1 hgr j1 j2 j3 j4 j5 j6 j7 hr3 hr4 hkc hcc1 hNN hcst hvy hCC hCB hu hun hroom hv0 RB RC CB CC VC5 HXB HXB2 HAL HK5 HM HR M5 hf0 hf2 p3 p4 p5 p6 hlt1 hlt2
    have hvI : (v : Int) < (l.length : Int) := by omega
    refine wp_region_noPanic ?_
    refine wp_region_held_drew (S := (fun w' => w'.cell? ⟨dx, 0, none⟩ = some (.pointer (some ⟨db, 0, none⟩)) ∧ w'.cell? ⟨lx, 0, none⟩ = some (.slice (some ⟨g, off, none⟩) l.length cap) ∧ w'.cell? ⟨wA.heap.size, 0, none⟩ = some (.int .i64 v) ∧ w'.cell? ⟨g, off + v, none⟩ = some (.int .i64 (P v)))) (by kernel_rfl) H6 (fun hHeld => ?_)
    refine wpAnyH_take_at (i := 0) (v := ?v0b) rfl (by kernel_rfl) (by kernel_rfl) (by kernel_rfl) (fun _ _ _ h => h) (Or.inl ⟨by rfl, ?y0b⟩) hHeld ?r0b
    case y0b => (intro w hSw; (try dsimp only at hSw); go_simp; first | done | with_reducible rfl)
    (try simp only [Act.put, List.setIfInBounds_toArray, List.set_cons_zero, List.set_cons_succ])
    refine wpAnyH_take_at (i := 1) (v := ?v1b) rfl (by kernel_rfl) (by kernel_rfl) (by kernel_rfl) (fun _ _ _ h => h) (Or.inl ⟨by rfl, ?y1b⟩) hHeld ?r1b
    case y1b => (intro w hSw; (try dsimp only at hSw); go_simp; first | done | with_reducible rfl)
    (try simp only [Act.put, List.setIfInBounds_toArray, List.set_cons_zero, List.set_cons_succ])
    refine wpAnyH_take_at (i := 2) (v := ?v2b) rfl (by kernel_rfl) (by kernel_rfl) (by kernel_rfl) (fun _ _ _ h => h) (Or.inl ⟨by rfl, ?y2b⟩) hHeld ?r2b
    case y2b => (intro w hSw; (try dsimp only at hSw); go_simp; first | done | with_reducible rfl)
    (try simp only [Act.put, List.setIfInBounds_toArray, List.set_cons_zero, List.set_cons_succ])
    refine wpAnyH_take_at (i := 3) (v := ?v3b) rfl (by kernel_rfl) (by kernel_rfl) (by kernel_rfl) (fun _ _ _ h => h) (Or.inl ⟨by rfl, ?y3b⟩) hHeld ?r3b
    case y3b => (intro w hSw; (try dsimp only at hSw); go_simp; first | done | with_reducible rfl)
    (try simp only [Act.put, List.setIfInBounds_toArray, List.set_cons_zero, List.set_cons_succ])
    refine wpAnyH_take_at (i := 4) (v := ?v4b) rfl (by kernel_rfl) (by kernel_rfl) (by kernel_rfl) (fun _ _ _ h => h) (Or.inl ⟨by rfl, ?y4b⟩) hHeld ?r4b
    case y4b => (intro w hSw; (try dsimp only at hSw); go_simp; first | done | with_reducible rfl)
    (try simp only [Act.put, List.setIfInBounds_toArray, List.set_cons_zero, List.set_cons_succ])
    refine wpAnyH_take_at (i := 5) (v := ?v5b) rfl (by kernel_rfl) (by kernel_rfl) (by kernel_rfl) (fun _ _ _ h => h) (Or.inl ⟨by rfl, ?y5b⟩) hHeld ?r5b
    case y5b => (intro w hSw; (try dsimp only at hSw); go_simp; first | done | with_reducible rfl)
    (try simp only [Act.put, List.setIfInBounds_toArray, List.set_cons_zero, List.set_cons_succ])
    refine wpAnyH_take_at (i := 6) (v := ?v6b) rfl (by kernel_rfl) (by kernel_rfl) (by kernel_rfl) (fun _ _ _ h => h) (Or.inl ⟨by rfl, ?y6b⟩) hHeld ?r6b
    case y6b => (intro w hSw; (try dsimp only at hSw); go_simp; first | done | with_reducible rfl)
    (try simp only [Act.put, List.setIfInBounds_toArray, List.set_cons_zero, List.set_cons_succ])
    refine wpAnyH_take_at (i := 8) (v := ?v8b) rfl (by kernel_rfl) (by kernel_rfl) (by kernel_rfl) (fun _ _ _ h => h) (Or.inl ⟨by rfl, ?y8b⟩) hHeld ?r8b
    case y8b => (intro w hSw; (try dsimp only at hSw); go_simp; first | done | with_reducible rfl)
    (try simp only [Act.put, List.setIfInBounds_toArray, List.set_cons_zero, List.set_cons_succ])
    refine wpAnyH_take_at (i := 9) (v := ?v9b) rfl (by kernel_rfl) (by kernel_rfl) (by kernel_rfl) (fun _ _ _ h => h) (Or.inl ⟨by rfl, ?y9b⟩) hHeld ?r9b
    case y9b => (intro w hSw; (try dsimp only at hSw); go_simp; first | done | with_reducible rfl)
    (try simp only [Act.put, List.setIfInBounds_toArray, List.set_cons_zero, List.set_cons_succ])
    refine wpAnyH_one (i := 7) (by kernel_rfl) rfl (fun KK hK => ?_)
    go_simp
    refine (HLT.out _ (MC.out.quiet ((Keeps.refl _ _).drew))).mono ?_
    rintro e wD ⟨F3, rfl, MD, VD⟩
    go_simp
    have VD0 : Hid (Mv wC wD (Qf F2 mb) (Qf F3 mb)) := (Mv.quiet (Fp := Qf F2 mb) ((Keeps.refl (fun _ => False) wC).drew)).trans VD.out
    refine hK.out _ _ ?s7b (fun hHeld => ?_)
    case s7b => exact HS6.out _ VD0.out.keeps
    clear hK KK
    (try simp only [Act.put, List.setIfInBounds_toArray, List.set_cons_zero, List.set_cons_succ])
    refine wpAnyH_one (i := 10) (by kernel_rfl) rfl (fun KK hK => ?_)
    go_simp
    refine (HIT.out _ F3 MD.out).mono ?_
    rintro e wE ⟨F4, rfl, ME, VE⟩
    go_simp
    have VE0 : Hid (Mv wC wE (Qf F2 mb) (Qf F4 mb)) := VD0.out.trans VE.out
    refine hK.out _ _ ?s10b (fun hHeld => ?_)
    case s10b => exact HS6.out _ VE0.out.keeps
    clear hK KK
    (try simp only [Act.put, List.setIfInBounds_toArray, List.set_cons_zero, List.set_cons_succ])
    refine wpAnyH_take_at (i := 11) (v := ?v11b) rfl (by kernel_rfl) (by kernel_rfl) (by kernel_rfl) (fun _ _ _ h => h) (Or.inl ⟨by rfl, ?y11b⟩) hHeld ?r11b
    case y11b => (intro w hSw; (try dsimp only at hSw); go_simp; first | done | with_reducible rfl)
    (try simp only [Act.put, List.setIfInBounds_toArray, List.set_cons_zero, List.set_cons_succ])
    refine wpAnyH_done (by kernel_rfl) ?_ _
    refine NoPanic.normal ?_
    clear hHeld H6 HS6 HLT HIT MD VD VD0 VE MC
    obtain ⟨w6, hrun, hmap, hk6⟩ := ME.out.mp.update (by have := HCNT.out.2.2.2; unfold maxLen; omega) (x := (i : Int) + 2) (y := r4.1) (by omega) (by omega) (by omega) (by omega)
    have c1 := ME.out.c1
    have HP : Hid (MvPost W db mb V B st calls Fp N kb dx wx lx (some ⟨g, off, none⟩) cap l P kc ((i : Int) + 2) (.returned (.int .i64 r4.1)) w6) := by
      have m6 : Mv wE w6 (Qf F4 mb) (Qf F4 mb) := ⟨hk6.mono (fun _ _ h => .inr h), fun _ h => .inl h⟩
      exact ⟨r4.1, r4.2, k2 + 2, q2 + 2, N2 + 1, _, F4, rfl, ME.out.move (ME.out.bd.keeps hk6 (fun x hx e => ME.out.f0 (e ▸ hx))) hmap m6 ME.out.f0, (HV0.out.trans VE0.out).trans m6, HREL, HCNT.out.1, HCNT.out.2.1, HCNT.out.2.2.1⟩
    clear hmap hk6 ME VE0 HV0 HREL HCNT
    go_wp2_with fail
    go_ret
    exact HP.out
end
end Go.Proofs.Ytipcgjigkipcpaa
