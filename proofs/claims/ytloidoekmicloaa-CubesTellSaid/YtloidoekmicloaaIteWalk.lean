/-
  If-then-else of diagrams: the walk.
-/
import Derived.Test.YtloidoekmicloaaMD
import Derived.Test.YtloidoekmicloaaMA
set_option linter.unusedVariables false
set_option linter.unusedSimpArgs false
set_option linter.unnecessarySimpa false
namespace Go.Proofs.Ytloidoekmicloaa
open Go.ChangeShapes Go.WideShapes Go.ChangeAt Go.RowKit Go.Deep NodePlain
section
variable {W W' : World} {db : Nat} {V B : Int} {st : St} {calls : Int} {Fp : Nat → Prop}
theorem BdTo.refl (h : Bd W db V B st calls Fp) : BdTo db V B st calls W Fp W := ⟨Fp, h, Mv.refl _ _⟩
/-- An answer looked up. -/
theorem BdM.get {tb tp M : Nat} {vn : Value} {cb cp : Nat} {P : Nat → Nat} (h : BdM W db tb tp M vn cb cp P V B st calls) (h0 : 0 ≤ st.hits) (h1 : st.hits ≤ 100000000) (f g k : Int) :
    Calls Try.prog 67 #[.pointer (some ⟨cb, 0, none⟩), .int .i64 0, .int .i64 f, .int .i64 g, .int .i64 k] W fun e W' => e = .returned (.tuple #[.int .i64 ((look 4096 st.F 0 f g k).getD 0), .bool (look 4096 st.F 0 f g k).isSome]) ∧
      Hid (BdTo db V B { st with hits := if (look 4096 st.F 0 f g k).isSome then st.hits + 1 else st.hits } calls W (bdFp db tb tp vn cb cp) W') := by
  refine (get_spec 0 f g k W h.cache h0 h1).mono ?_
  rintro e W' ⟨rfl, hk, hc⟩
  have ht : ∀ x, tabFp tb tp vn x → ¬ x = cb := fun x hx => (h.s1 x hx).2.1
  exact ⟨rfl, bdFp db tb tp vn cb cp, ⟨tb, tp, M, vn, cb, cp, P, ⟨(hk.block _ (lt_of_heap h.obj) (fun e => h.s2 e.symm)).trans h.obj, h.tab.keeps hk ht, hc, h.s1, h.s2, h.s3⟩, rfl⟩, hk.mono (fun x _ e => .inr (.inr (.inl e))), fun _ hx => .inl hx⟩
/-- An answer kept. -/
theorem BdM.put {tb tp M : Nat} {vn : Value} {cb cp : Nat} {P : Nat → Nat} (h : BdM W db tb tp M vn cb cp P V B st calls) (f g k x : Int) :
    Calls Try.prog 70 #[.pointer (some ⟨cb, 0, none⟩), .int .i64 0, .int .i64 f, .int .i64 g, .int .i64 k, .int .i64 x] W fun e W' => e = .returned (.tuple #[]) ∧
      Hid (BdTo db V B { st with F := keep 4096 st.F 0 f g k x } calls W (bdFp db tb tp vn cb cp) W') := by
  refine (put_spec 0 f g k x W h.cache).mono ?_
  rintro e W' ⟨rfl, hk, hc⟩
  have ht : ∀ y, tabFp tb tp vn y → ¬ y = cp := fun y hy => (h.s1 y hy).2.2
  exact ⟨rfl, bdFp db tb tp vn cb cp, ⟨tb, tp, M, vn, cb, cp, P, ⟨(hk.block _ (lt_of_heap h.obj) (fun e => h.s3 e.symm)).trans h.obj, h.tab.keeps hk ht, hc, h.s1, h.s2, h.s3⟩, rfl⟩, hk.mono (fun x _ e => .inr (.inr (.inr e))), fun _ hx => .inl hx⟩
set_option maxRecDepth 100000
set_option maxHeartbeats 3200000
theorem ite_low1 (W : World) (db : Nat) (g h : Int) : Calls Try.prog 51 #[.pointer (some ⟨db, 0, none⟩), .int .i64 1, .int .i64 g, .int .i64 h] W fun e W' => e = .returned (.int .i64 g) ∧ W = W' := by
  go_enter Try.func51, Try.ntmps51
  go_wp2_with fail
  go_ret
  exact ⟨rfl, rfl⟩
theorem ite_low2 (W : World) (db : Nat) (f g : Int) (h1 : f ≠ 1) : Calls Try.prog 51 #[.pointer (some ⟨db, 0, none⟩), .int .i64 f, .int .i64 g, .int .i64 g] W fun e W' => e = .returned (.int .i64 g) ∧ W = W' := by
  have e1 : (f == 1) = false := beq_eq_false_iff_ne.2 h1
  go_enter Try.func51, Try.ntmps51
  go_wp2_with fail
  go_ret
  exact ⟨rfl, rfl⟩
theorem ite_low3 (W : World) (db : Nat) (g h : Int) (h1 : g ≠ h) : Calls Try.prog 51 #[.pointer (some ⟨db, 0, none⟩), .int .i64 0, .int .i64 g, .int .i64 h] W fun e W' => e = .returned (.int .i64 h) ∧ W = W' := by
  have e1 : (g == h) = false := beq_eq_false_iff_ne.2 h1
  go_enter Try.func51, Try.ntmps51
  go_wp2_with fail
  go_ret
  exact ⟨rfl, rfl⟩
theorem ite_low4 (W : World) (db : Nat) (f : Int) (h1 : f ≠ 1) (h0 : f ≠ 0) : Calls Try.prog 51 #[.pointer (some ⟨db, 0, none⟩), .int .i64 f, .int .i64 1, .int .i64 0] W fun e W' => e = .returned (.int .i64 f) ∧ W = W' := by
  have e1 : (f == 1) = false := beq_eq_false_iff_ne.2 h1
  have e2 : (f == 0) = false := beq_eq_false_iff_ne.2 h0
  go_enter Try.func51, Try.ntmps51
  go_wp2_with fail
  go_ret
  exact ⟨rfl, rfl⟩
/-- The tests that ite makes ahead of the look. -/
structure Deep' (f g h : Int) : Prop where
  f1 : f ≠ 1
  f0 : f ≠ 0
  gh : g ≠ h
  id_ : ¬ (g = 1 ∧ h = 0)
theorem ite_hit (hB : Bd W db V B st calls Fp) (h0 : 0 ≤ st.hits) (h1 : st.hits ≤ 100000000) {f g h x : Int} (hd : Deep' f g h) (hl : look 4096 st.F 0 f g h = some x) :
    Calls Try.prog 51 #[.pointer (some ⟨db, 0, none⟩), .int .i64 f, .int .i64 g, .int .i64 h] W fun e W' => e = .returned (.int .i64 x) ∧ Hid (BdTo db V B { st with hits := st.hits + 1 } calls W Fp W') := by
  obtain ⟨tb, tp, M, vn, cb, cp, P, hm, rfl⟩ := hB
  obtain ⟨_, c1, _⟩ := hm.cells
  have hc := hm.get h0 h1 f g h
  rw [hl] at hc
  have HC : Hid (Calls Try.prog 67 #[.pointer (some ⟨cb, 0, none⟩), .int .i64 0, .int .i64 f, .int .i64 g, .int .i64 h] W fun e W' => e = .returned (.tuple #[.int .i64 x, .bool true]) ∧ Hid (BdTo db V B { st with hits := st.hits + 1 } calls W (bdFp db tb tp vn cb cp) W')) := hc
  clear hc hm hl
  obtain ⟨f1, f0, gh, id_⟩ := hd
  have e1 : (f == 1) = false := beq_eq_false_iff_ne.2 f1
  have e2 : (f == 0) = false := beq_eq_false_iff_ne.2 f0
  have e3 : (g == h) = false := beq_eq_false_iff_ne.2 gh
  by_cases hg : g = 1
  · have e4 : (h == 0) = false := beq_eq_false_iff_ne.2 (fun e => id_ ⟨hg, e⟩)
    subst hg
    go_enter Try.func51, Try.ntmps51
    go_wp2_with (go_at_call 67; refine HC.out.mono ?_; rintro e wA ⟨rfl, hb⟩)
    go_ret
    exact ⟨rfl, hb⟩
  · have e4 : (g == 1) = false := beq_eq_false_iff_ne.2 hg
    go_enter Try.func51, Try.ntmps51
    go_wp2_with (go_at_call 67; refine HC.out.mono ?_; rintro e wA ⟨rfl, hb⟩)
    go_ret
    exact ⟨rfl, hb⟩
/-- What ite promises, of so much depth. -/
def IteSpec (V B : Int) (db : Nat) (calls : Int) (d : Nat) : Prop := ∀ (st : St) (W : World) (Fp : Nat → Prop) (f g h : Int), Bd W db V B st calls Fp → Ok V st → isN st.n f = true → isN st.n g = true → isN st.n h = true → V - mn V st.L st.n f g h ≤ d →
  st.n + 2 ^ d ≤ 100000000 → 0 ≤ st.hits → st.hits + ((2 ^ d : Nat) : Int) ≤ 100000000 → Calls Try.prog 51 #[.pointer (some ⟨db, 0, none⟩), .int .i64 f, .int .i64 g, .int .i64 h] W fun e W' => e = .returned (.int .i64 (iteM V B d st f g h).1) ∧ Hid (BdTo db V B (iteM V B d st f g h).2 calls W Fp W')
theorem i64_isN {n : Nat} {k : Int} (hn : n ≤ 100000000) (h : isN n k = true) : -9223372036854775808 ≤ k ∧ k ≤ 9223372036854775807 := by
  rw [isN_iff] at h; omega
theorem ite_miss (hV0 : 0 ≤ V) (hV : V ≤ 61) {d : Nat} (ih : IteSpec V B db calls d) {f g h : Int} (hB : Bd W db V B st calls Fp) (ok : Ok V st) (hf : isN st.n f = true) (hg : isN st.n g = true) (hh : isN st.n h = true)
    (hmn : V - mn V st.L st.n f g h ≤ ((d + 1 : Nat) : Int)) (hn : st.n + 2 ^ (d + 1) ≤ 100000000) (h0 : 0 ≤ st.hits) (h1 : st.hits + ((2 ^ (d + 1) : Nat) : Int) ≤ 100000000) (hd : Deep' f g h) (hl : look 4096 st.F 0 f g h = none) :
    Calls Try.prog 51 #[.pointer (some ⟨db, 0, none⟩), .int .i64 f, .int .i64 g, .int .i64 h] W fun e W' => e = .returned (.int .i64 (iteStep V B (iteM V B d) st f g h).1) ∧ Hid (BdTo db V B (iteStep V B (iteM V B d) st f g h).2 calls W Fp W') := by
  have h2d : 1 ≤ 2 ^ d := Nat.one_le_two_pow
  have h2e : 2 ^ (d + 1) = 2 ^ d + 2 ^ d := by rw [Nat.pow_succ]; omega
  obtain ⟨v, hv⟩ : ∃ v, mn V st.L st.n f g h = v := ⟨_, rfl⟩
  obtain ⟨v0, vV, ⟨f1, g1, k1, m1⟩, hrest⟩ := step_ready hV0 ok hf hg hh hmn hd.f0 hd.f1 hv
  have A := iteM_ok (B := B) hV0 d st _ _ _ ok f1 g1 k1 m1
  have HI1 := fun W Fp hb => ih st W Fp _ _ _ hb ok f1 g1 k1 m1 (by omega) h0 (by omega)
  unfold iteStep
  rw [hv]
  generalize iteM V B d st (halfN st.L st.n f v false) (halfN st.L st.n g v false) (halfN st.L st.n h v false) = a at A HI1 ⊢
  obtain ⟨q1, q2, q3, f4, g4, k4, m4⟩ := hrest a A
  have hfew := A.few
  have hhlo := A.hlo
  have hhhi := A.hhi
  have hIf := i64_isN (by omega) hf
  have hIg := i64_isN (by omega) hg
  have hIh := i64_isN (by omega) hh
  unfold iteB
  have HI2 := fun (has : a.2.s = false) W Fp hb => ih a.2 W Fp _ _ _ hb A.ok f4 g4 k4 m4 (by omega) (by omega) (by omega)
  have hB2 := fun (has : a.2.s = false) => iteM_ok (B := B) hV0 d a.2 _ _ _ A.ok f4 g4 k4 m4
  generalize iteM V B d a.2 (halfN a.2.L a.2.n f v true) (halfN a.2.L a.2.n g v true) (halfN a.2.L a.2.n h v true) = b at HI2 hB2 ⊢
  have hIa := i64_isN (by omega) A.isr
  unfold iteC
  obtain ⟨res, hres⟩ : ∃ res, (if a.2.s = true then (0, a.2) else if b.2.s = true then (0, b.2) else ((makeM V B b.2 v a.1 b.1).1, if (makeM V B b.2 v a.1 b.1).2.s = true then (makeM V B b.2 v a.1 b.1).2 else { (makeM V B b.2 v a.1 b.1).2 with F := keep 4096 (makeM V B b.2 v a.1 b.1).2.F 0 f g h (makeM V B b.2 v a.1 b.1).1 })) = res := ⟨_, rfl⟩
  rw [hres]
  have R1 : Hid (a.2.s = true → res = (0, a.2)) := fun e => by rw [← hres, if_pos e]
  have R2 : Hid (a.2.s = false → b.2.s = true → res = (0, b.2)) := fun e e2 => by rw [← hres, if_neg (by rw [e]; decide), if_pos e2]
  have HMK : Hid (a.2.s = false → b.2.s = false → ∀ W Fp, Bd W db V B b.2 calls Fp → Calls Try.prog 50 #[.pointer (some ⟨db, 0, none⟩), .int .i64 v, .int .i64 a.1, .int .i64 b.1] W fun e W' => e = .returned (.int .i64 (makeM V B b.2 v a.1 b.1).1) ∧ Hid (BdTo db V B (makeM V B b.2 v a.1 b.1).2 calls W Fp W')) := fun e1 e2 W Fp hb => by
    have Bq := hB2 e1
    have hIb := i64_isN (by have := Bq.few; omega) Bq.isr
    exact bmake_spec hb (by have := Bq.few; omega) v a.1 b.1 (by omega) (by omega) hIa.1 hIa.2 hIb.1 hIb.2
  have R34 : Hid (a.2.s = false → b.2.s = false → res = ((makeM V B b.2 v a.1 b.1).1, if (makeM V B b.2 v a.1 b.1).2.s = true then (makeM V B b.2 v a.1 b.1).2 else { (makeM V B b.2 v a.1 b.1).2 with F := keep 4096 (makeM V B b.2 v a.1 b.1).2.F 0 f g h (makeM V B b.2 v a.1 b.1).1 })) := fun e e2 => by rw [← hres, if_neg (by rw [e]; decide), if_neg (by rw [e2]; decide)]
  generalize makeM V B b.2 v a.1 b.1 = m at HMK R34
  have HI1 := Lib.hid HI1
  have HI2 := Lib.hid HI2
  have hn1 : st.n ≤ 1000000000 := by omega
  have hn2 : a.2.n ≤ 1000000000 := by omega
  have HH1 : Hid (∀ W Fp, Bd W db V B st calls Fp → ∀ k, k = f ∨ k = g ∨ k = h → Calls Try.prog 69 #[.pointer (some ⟨db, 0, none⟩), .int .i64 k, .int .i64 v, .bool false] W fun e W' => e = .returned (.int .i64 (halfN st.L st.n k v false)) ∧ Keeps (fun _ => False) W W') := fun W Fp hb k hk => by
    refine (half_spec hb hn1 k v (by rcases hk with rfl | rfl | rfl <;> omega) (by rcases hk with rfl | rfl | rfl <;> omega) false).mono ?_
    rintro e W' ⟨rfl, h⟩
    exact ⟨rfl, Keeps.of_below h (Nat.le_refl _)⟩
  have HH2 : Hid (∀ W Fp, Bd W db V B a.2 calls Fp → ∀ k, k = f ∨ k = g ∨ k = h → Calls Try.prog 69 #[.pointer (some ⟨db, 0, none⟩), .int .i64 k, .int .i64 v, .bool true] W fun e W' => e = .returned (.int .i64 (halfN a.2.L a.2.n k v true)) ∧ Keeps (fun _ => False) W W') := fun W Fp hb k hk => by
    refine (half_spec hb hn2 k v (by rcases hk with rfl | rfl | rfl <;> omega) (by rcases hk with rfl | rfl | rfl <;> omega) true).mono ?_
    rintro e W' ⟨rfl, h⟩
    exact ⟨rfl, Keeps.of_below h (Nat.le_refl _)⟩
  obtain ⟨tb, tp, M, vn, cb, cp, P, hm, rfl⟩ := hB
  obtain ⟨_, c1, _⟩ := hm.cells
  have hc := hm.get h0 (by omega) f g h
  rw [hl] at hc
  have HC : Hid (Calls Try.prog 67 #[.pointer (some ⟨cb, 0, none⟩), .int .i64 0, .int .i64 f, .int .i64 g, .int .i64 h] W fun e W' => e = .returned (.tuple #[.int .i64 0, .bool false]) ∧ Hid (BdTo db V B st calls W (bdFp db tb tp vn cb cp) W')) := hc
  clear hc hm hl hres A hB2 hrest q1 q2 q3 f4 g4 k4 m4 f1 g1 k1 m1 ih ok
  obtain ⟨t1, t0, gh, id_⟩ := hd
  have e1 : (f == 1) = false := beq_eq_false_iff_ne.2 t1
  have e2 : (f == 0) = false := beq_eq_false_iff_ne.2 t0
  have e3 : (g == h) = false := beq_eq_false_iff_ne.2 gh
  have HVAR : Hid (∀ W tb tp M vn cb cp P, BdM W db tb tp M vn cb cp P V B st calls → ∀ k, k = f ∨ k = g ∨ k = h → Calls Try.prog 68 #[.pointer (some ⟨tb, 0, none⟩), .int .i64 k] W fun e W' => e = .returned (.int .i64 (varN V st.L st.n k)) ∧ Keeps (fun _ => False) W W') := fun W tb tp M vn cb cp P hb k hk => by
    refine (tvar_spec hb.tab.mem (by omega) k (by rcases hk with rfl | rfl | rfl <;> omega) (by rcases hk with rfl | rfl | rfl <;> omega)).mono ?_
    rintro e W' ⟨rfl, h⟩
    exact ⟨rfl, Keeps.of_below h (Nat.le_refl _)⟩
  have hif : (if varN V st.L st.n h < (if varN V st.L st.n g < varN V st.L st.n f then varN V st.L st.n g else varN V st.L st.n f) then varN V st.L st.n h else if varN V st.L st.n g < varN V st.L st.n f then varN V st.L st.n g else varN V st.L st.n f) = v := by
    rw [← hv]
    unfold mn
    split <;> split <;> omega
  have HMN := Lib.hid hif
  clear hif hv
  have hcase : (g == 1) = false ∨ ((g == 1) = true ∧ (h == 0) = false) := by
    by_cases hg1 : g = 1
    · exact .inr ⟨beq_iff_eq.2 hg1, beq_eq_false_iff_ne.2 (fun e => id_ ⟨hg1, e⟩)⟩
    · exact .inl (beq_eq_false_iff_ne.2 hg1)
  clear gh id_ t1 t0
  go_enter Try.func51, Try.ntmps51
  go_upto_region 5 with fail
  rcases hcase with e4 | ⟨e5, e4⟩
  · go_wp2_with fail
    refine HC.out.mono ?_
    rintro e wA ⟨rfl, hbA⟩
    clear HC c1 e1 e2 e3 e4
    obtain ⟨Fp1, hB1, hM1⟩ := hbA.out
    have HB1 := Lib.hid hB1
    have HM1 := Lib.hid hM1
    clear hB1 hM1 hbA
    obtain ⟨tb1, tp1, M1, vn1, cb1, cp1, P1, hm1, hFp1⟩ := HB1.out
    obtain ⟨d0, _, _⟩ := hm1.cells
    have HMM := Lib.hid hm1
    have H0 : (fun w' => w'.cell? ⟨db, 0, none⟩ = some (.pointer (some ⟨tb1, 0, none⟩))) wA.drew := d0
    have HQ : Hid (∀ W', Keeps (fun _ => False) wA W' → BdM W' db tb1 tp1 M1 vn1 cb1 cp1 P1 V B st calls ∧ W'.cell? ⟨db, 0, none⟩ = some (.pointer (some ⟨tb1, 0, none⟩))) := fun W' hk => by
      have hm := HMM.out
      have : BdM W' db tb1 tp1 M1 vn1 cb1 cp1 P1 V B st calls := ⟨(hk.block _ (lt_of_heap hm.obj) (fun x => x)).trans hm.obj, hm.tab.keeps hk (fun _ _ x => x), hm.cache.keeps hk (fun x => x) (fun x => x), hm.s1, hm.s2, hm.s3⟩
      exact ⟨this, this.cells.1⟩
    clear hm1 d0 HMM hFp1
    go_upto_region 10 with fail
    refine wp_region_noPanic ?_
    refine wp_region_held_drew (S := fun w' => w'.cell? ⟨db, 0, none⟩ = some (.pointer (some ⟨tb1, 0, none⟩))) (by kernel_rfl) H0 (fun hHeld => ?_)
    refine wpAnyH_take_at (i := 0) (v := ?v0v) rfl (by kernel_rfl) (by kernel_rfl) (by kernel_rfl) (fun _ _ _ h => h) (Or.inl ⟨by rfl, ?y0v⟩) hHeld ?r0v
    case y0v => (intro w hSw; (try dsimp only at hSw); go_simp; first | done | with_reducible rfl)
    (try simp only [Act.put, List.setIfInBounds_toArray, List.set_cons_zero, List.set_cons_succ])
    refine wpAnyH_take_at (i := 1) (v := ?v1v) rfl (by kernel_rfl) (by kernel_rfl) (by kernel_rfl) (fun _ _ _ h => h) (Or.inl ⟨by rfl, ?y1v⟩) hHeld ?r1v
    case y1v => (intro w hSw; (try dsimp only at hSw); go_simp; first | done | with_reducible rfl)
    (try simp only [Act.put, List.setIfInBounds_toArray, List.set_cons_zero, List.set_cons_succ])
    refine wpAnyH_take_at (i := 2) (v := ?v2v) rfl (by kernel_rfl) (by kernel_rfl) (by kernel_rfl) (fun _ _ _ h => h) (Or.inl ⟨by rfl, ?y2v⟩) hHeld ?r2v
    case y2v => (intro w hSw; (try dsimp only at hSw); go_simp; first | done | with_reducible rfl)
    (try simp only [Act.put, List.setIfInBounds_toArray, List.set_cons_zero, List.set_cons_succ])
    refine wpAnyH_take_at (i := 3) (v := ?v3v) rfl (by kernel_rfl) (by kernel_rfl) (by kernel_rfl) (fun _ _ _ h => h) (Or.inl ⟨by rfl, ?y3v⟩) hHeld ?r3v
    case y3v => (intro w hSw; (try dsimp only at hSw); go_simp; first | done | with_reducible rfl)
    (try simp only [Act.put, List.setIfInBounds_toArray, List.set_cons_zero, List.set_cons_succ])
    refine wpAnyH_take_at (i := 4) (v := ?v4v) rfl (by kernel_rfl) (by kernel_rfl) (by kernel_rfl) (fun _ _ _ h => h) (Or.inl ⟨by rfl, ?y4v⟩) hHeld ?r4v
    case y4v => (intro w hSw; (try dsimp only at hSw); go_simp; first | done | with_reducible rfl)
    (try simp only [Act.put, List.setIfInBounds_toArray, List.set_cons_zero, List.set_cons_succ])
    refine wpAnyH_take_at (i := 6) (v := ?v6v) rfl (by kernel_rfl) (by kernel_rfl) (by kernel_rfl) (fun _ _ _ h => h) (Or.inl ⟨by rfl, ?y6v⟩) hHeld ?r6v
    case y6v => (intro w hSw; (try dsimp only at hSw); go_simp; first | done | with_reducible rfl)
    (try simp only [Act.put, List.setIfInBounds_toArray, List.set_cons_zero, List.set_cons_succ])
    refine wpAnyH_take_at (i := 7) (v := ?v7v) rfl (by kernel_rfl) (by kernel_rfl) (by kernel_rfl) (fun _ _ _ h => h) (Or.inl ⟨by rfl, ?y7v⟩) hHeld ?r7v
    case y7v => (intro w hSw; (try dsimp only at hSw); go_simp; first | done | with_reducible rfl)
    (try simp only [Act.put, List.setIfInBounds_toArray, List.set_cons_zero, List.set_cons_succ])
    refine wpAnyH_take_at (i := 8) (v := ?v8v) rfl (by kernel_rfl) (by kernel_rfl) (by kernel_rfl) (fun _ _ _ h => h) (Or.inl ⟨by rfl, ?y8v⟩) hHeld ?r8v
    case y8v => (intro w hSw; (try dsimp only at hSw); go_simp; first | done | with_reducible rfl)
    (try simp only [Act.put, List.setIfInBounds_toArray, List.set_cons_zero, List.set_cons_succ])
    refine wpAnyH_take_at (i := 9) (v := ?v9v) rfl (by kernel_rfl) (by kernel_rfl) (by kernel_rfl) (fun _ _ _ h => h) (Or.inl ⟨by rfl, ?y9v⟩) hHeld ?r9v
    case y9v => (intro w hSw; (try dsimp only at hSw); go_simp; first | done | with_reducible rfl)
    (try simp only [Act.put, List.setIfInBounds_toArray, List.set_cons_zero, List.set_cons_succ])
    refine wpAnyH_take_at (i := 10) (v := ?v10v) rfl (by kernel_rfl) (by kernel_rfl) (by kernel_rfl) (fun _ _ _ h => h) (Or.inl ⟨by rfl, ?y10v⟩) hHeld ?r10v
    case y10v => (intro w hSw; (try dsimp only at hSw); go_simp; first | done | with_reducible rfl)
    (try simp only [Act.put, List.setIfInBounds_toArray, List.set_cons_zero, List.set_cons_succ])
    refine wpAnyH_take_at (i := 12) (v := ?v12v) rfl (by kernel_rfl) (by kernel_rfl) (by kernel_rfl) (fun _ _ _ h => h) (Or.inl ⟨by rfl, ?y12v⟩) hHeld ?r12v
    case y12v => (intro w hSw; (try dsimp only at hSw); go_simp; first | done | with_reducible rfl)
    (try simp only [Act.put, List.setIfInBounds_toArray, List.set_cons_zero, List.set_cons_succ])
    refine wpAnyH_take_at (i := 13) (v := ?v13v) rfl (by kernel_rfl) (by kernel_rfl) (by kernel_rfl) (fun _ _ _ h => h) (Or.inl ⟨by rfl, ?y13v⟩) hHeld ?r13v
    case y13v => (intro w hSw; (try dsimp only at hSw); go_simp; first | done | with_reducible rfl)
    (try simp only [Act.put, List.setIfInBounds_toArray, List.set_cons_zero, List.set_cons_succ])
    refine wpAnyH_take_at (i := 14) (v := ?v14v) rfl (by kernel_rfl) (by kernel_rfl) (by kernel_rfl) (fun _ _ _ h => h) (Or.inl ⟨by rfl, ?y14v⟩) hHeld ?r14v
    case y14v => (intro w hSw; (try dsimp only at hSw); go_simp; first | done | with_reducible rfl)
    (try simp only [Act.put, List.setIfInBounds_toArray, List.set_cons_zero, List.set_cons_succ])
    refine wpAnyH_take_at (i := 15) (v := ?v15v) rfl (by kernel_rfl) (by kernel_rfl) (by kernel_rfl) (fun _ _ _ h => h) (Or.inl ⟨by rfl, ?y15v⟩) hHeld ?r15v
    case y15v => (intro w hSw; (try dsimp only at hSw); go_simp; first | done | with_reducible rfl)
    (try simp only [Act.put, List.setIfInBounds_toArray, List.set_cons_zero, List.set_cons_succ])
    refine wpAnyH_take_at (i := 16) (v := ?v16v) rfl (by kernel_rfl) (by kernel_rfl) (by kernel_rfl) (fun _ _ _ h => h) (Or.inl ⟨by rfl, ?y16v⟩) hHeld ?r16v
    case y16v => (intro w hSw; (try dsimp only at hSw); go_simp; first | done | with_reducible rfl)
    (try simp only [Act.put, List.setIfInBounds_toArray, List.set_cons_zero, List.set_cons_succ])
    refine wpAnyH_one (i := 5) (by kernel_rfl) rfl (fun KK hK => ?_)
    go_simp
    refine (HVAR.out _ _ _ _ _ _ _ _ (HQ.out _ ((Keeps.refl (fun _ => False) wA).drew)).1 _ (.inl rfl)).mono ?_
    rintro e w0 ⟨rfl, hk0⟩
    go_simp
    have hq0 := ((Keeps.refl (fun _ => False) wA).drew).trans hk0
    have hh0 := (HQ.out _ hq0).2
    refine hK.out _ _ ?s5v (fun hHeld => ?_)
    case s5v => exact hh0
    clear hK KK
    (try simp only [Act.put, List.setIfInBounds_toArray, List.set_cons_zero, List.set_cons_succ])
    refine wpAnyH_one (i := 11) (by kernel_rfl) rfl (fun KK hK => ?_)
    go_simp
    refine (HVAR.out _ _ _ _ _ _ _ _ (HQ.out _ hq0).1 _ (.inr (.inl rfl))).mono ?_
    rintro e w1 ⟨rfl, hk1⟩
    go_simp
    have hq1 := hq0.trans hk1
    have hh1 := (HQ.out _ hq1).2
    refine hK.out _ _ ?s11v (fun hHeld => ?_)
    case s11v => exact hh1
    clear hK KK
    (try simp only [Act.put, List.setIfInBounds_toArray, List.set_cons_zero, List.set_cons_succ])
    refine wpAnyH_one (i := 17) (by kernel_rfl) rfl (fun KK hK => ?_)
    go_simp
    refine (HVAR.out _ _ _ _ _ _ _ _ (HQ.out _ hq1).1 _ (.inr (.inr rfl))).mono ?_
    rintro e w2 ⟨rfl, hk2⟩
    go_simp
    have hq2 := hq1.trans hk2
    have hh2 := (HQ.out _ hq2).2
    refine hK.out _ _ ?s17v (fun hHeld => ?_)
    case s17v => exact hh2
    clear hK KK
    (try simp only [Act.put, List.setIfInBounds_toArray, List.set_cons_zero, List.set_cons_succ])
    refine wpAnyH_take_at (i := 18) (v := ?v18v) rfl (by kernel_rfl) (by kernel_rfl) (by kernel_rfl) (fun _ _ _ h => h) (Or.inl ⟨by rfl, ?y18v⟩) hHeld ?r18v
    case y18v => (intro w hSw; (try dsimp only at hSw); go_simp; first | done | with_reducible rfl)
    (try simp only [Act.put, List.setIfInBounds_toArray, List.set_cons_zero, List.set_cons_succ])
    refine wpAnyH_take_at (i := 19) (v := ?v19v) rfl (by kernel_rfl) (by kernel_rfl) (by kernel_rfl) (fun _ _ _ h => h) (Or.inl ⟨by rfl, ?y19v⟩) hHeld ?r19v
    case y19v => (intro w hSw; (try dsimp only at hSw); go_simp; first | done | with_reducible rfl)
    (try simp only [Act.put, List.setIfInBounds_toArray, List.set_cons_zero, List.set_cons_succ])
    refine wpAnyH_done (by kernel_rfl) ?_ _
    refine NoPanic.normal ?_
    rw [HMN.out]
    have HB2 := Lib.hid (HB1.out.quiet hq2)
    have HM2 : Hid (Mv W w2 (bdFp db tb tp vn cb cp) Fp1) := HM1.out.trans (Mv.quiet hq2)
    clear hHeld H0 HQ HVAR HMN HB1 HM1 hq0 hq1 hq2 hk0 hk1 hk2 hh0 hh1 hh2
    go_wp2_with fail
    refine (HH1.out _ _ HB2.out _ (.inl rfl)).mono ?_
    rintro e y0 ⟨rfl, hy0⟩
    go_wp2_with fail
    refine (HH1.out _ _ (HB2.out.quiet hy0) _ (.inr (.inl rfl))).mono ?_
    rintro e y1 ⟨rfl, hy1⟩
    go_wp2_with fail
    refine (HH1.out _ _ (HB2.out.quiet (hy0.trans hy1)) _ (.inr (.inr rfl))).mono ?_
    rintro e y2 ⟨rfl, hy2⟩
    have HB3 := Lib.hid (HB2.out.quiet ((hy0.trans hy1).trans hy2))
    have HM3 : Hid (Mv W y2 (bdFp db tb tp vn cb cp) Fp1) := HM2.out.trans (Mv.quiet ((hy0.trans hy1).trans hy2))
    clear HH1 HB2 HM2 hy0 hy1 hy2
    go_wp2_with fail
    refine (HI1.out _ _ HB3.out).mono ?_
    rintro e wC ⟨rfl, hbC⟩
    obtain ⟨Fp4, hB4, hM4⟩ := hbC.out
    have HB4 := Lib.hid hB4
    have HM4 : Hid (Mv W wC (bdFp db tb tp vn cb cp) Fp4) := HM3.out.trans hM4
    clear HI1 HB3 HM3 hbC hB4 hM4
    go_wp2_with fail
    refine (bspent_spec HB4.out).mono ?_
    rintro e w' ⟨rfl, rfl⟩
    cases hsa : a.2.s with
    | true =>
      have HE := Lib.hid (R1.out hsa)
      clear R1 R2 R34 HI2 HH2 HMK
      go_wp2_with fail
      go_ret
      rw [HE.out]
      exact ⟨rfl, Fp4, HB4.out, HM4.out⟩
    | false =>
      have HR2 := Lib.hid (R2.out hsa)
      have HR34 := Lib.hid (R34.out hsa)
      have HMK2 := Lib.hid (HMK.out hsa)
      have HI22 := Lib.hid (HI2.out hsa)
      clear R1 R2 R34 HI2 HMK
      go_wp2_with fail
      refine (HH2.out _ _ HB4.out _ (.inl rfl)).mono ?_
      rintro e y0 ⟨rfl, hy0⟩
      go_wp2_with fail
      refine (HH2.out _ _ (HB4.out.quiet hy0) _ (.inr (.inl rfl))).mono ?_
      rintro e y1 ⟨rfl, hy1⟩
      go_wp2_with fail
      refine (HH2.out _ _ (HB4.out.quiet (hy0.trans hy1)) _ (.inr (.inr rfl))).mono ?_
      rintro e y2 ⟨rfl, hy2⟩
      have HB5 := Lib.hid (HB4.out.quiet ((hy0.trans hy1).trans hy2))
      have HM5 : Hid (Mv W y2 (bdFp db tb tp vn cb cp) Fp4) := HM4.out.trans (Mv.quiet ((hy0.trans hy1).trans hy2))
      clear HH2 HB4 HM4 hy0 hy1 hy2
      go_wp2_with fail
      refine (HI22.out _ _ HB5.out).mono ?_
      rintro e wD ⟨rfl, hbD⟩
      obtain ⟨Fp6, hB6, hM6⟩ := hbD.out
      have HB6 := Lib.hid hB6
      have HM6 : Hid (Mv W wD (bdFp db tb tp vn cb cp) Fp6) := HM5.out.trans hM6
      clear HI22 HB5 HM5 hbD hB6 hM6
      go_wp2_with fail
      refine (bspent_spec HB6.out).mono ?_
      rintro e w' ⟨rfl, rfl⟩
      cases hsb : b.2.s with
      | true =>
        have HE := Lib.hid (HR2.out hsb)
        clear HR2 HR34 HMK2
        go_wp2_with fail
        go_ret
        rw [HE.out]
        exact ⟨rfl, Fp6, HB6.out, HM6.out⟩
      | false =>
        have HE := Lib.hid (HR34.out hsb)
        have HMK3 := Lib.hid (HMK2.out hsb)
        clear HR2 HR34 HMK2
        go_wp2_with fail
        refine (HMK3.out _ _ HB6.out).mono ?_
        rintro e wE ⟨rfl, hbE⟩
        obtain ⟨Fp7, hB7, hM7⟩ := hbE.out
        have HB7 := Lib.hid hB7
        have HM7 : Hid (Mv W wE (bdFp db tb tp vn cb cp) Fp7) := HM6.out.trans hM7
        clear HMK3 HB6 HM6 hbE hB7 hM7
        go_wp2_with fail
        refine (bspent_spec HB7.out).mono ?_
        rintro e w' ⟨rfl, rfl⟩
        cases hsm : m.2.s with
        | true =>
          have HE2 : Hid (res = (m.1, m.2)) := by have e := HE.out; rw [if_pos hsm] at e; exact e
          clear HE
          go_wp2_with fail
          go_ret
          rw [HE2.out]
          exact ⟨rfl, Fp7, HB7.out, HM7.out⟩
        | false =>
          have HE2 : Hid (res = (m.1, { m.2 with F := keep 4096 m.2.F 0 f g h m.1 })) := by have e := HE.out; rw [if_neg (by rw [hsm]; decide)] at e; exact e
          clear HE
          obtain ⟨tb8, tp8, M8, vn8, cb8, cp8, P8, hm8, rfl⟩ := HB7.out
          obtain ⟨_, d8, _⟩ := hm8.cells
          have HPUT := Lib.hid (hm8.put f g h m.1)
          clear hm8 HB7
          go_wp2_with fail
          refine HPUT.out.mono ?_
          rintro e wF ⟨rfl, hbF⟩
          clear HPUT d8
          go_wp2_with fail
          go_ret
          rw [HE2.out]
          obtain ⟨Fp9, hB9, hM9⟩ := hbF.out
          exact ⟨rfl, Fp9, hB9, HM7.out.trans hM9⟩
  · go_wp2_with fail
    refine HC.out.mono ?_
    rintro e wA ⟨rfl, hbA⟩
    clear HC c1 e1 e2 e3 e4 e5
    obtain ⟨Fp1, hB1, hM1⟩ := hbA.out
    have HB1 := Lib.hid hB1
    have HM1 := Lib.hid hM1
    clear hB1 hM1 hbA
    obtain ⟨tb1, tp1, M1, vn1, cb1, cp1, P1, hm1, hFp1⟩ := HB1.out
    obtain ⟨d0, _, _⟩ := hm1.cells
    have HMM := Lib.hid hm1
    have H0 : (fun w' => w'.cell? ⟨db, 0, none⟩ = some (.pointer (some ⟨tb1, 0, none⟩))) wA.drew := d0
    have HQ : Hid (∀ W', Keeps (fun _ => False) wA W' → BdM W' db tb1 tp1 M1 vn1 cb1 cp1 P1 V B st calls ∧ W'.cell? ⟨db, 0, none⟩ = some (.pointer (some ⟨tb1, 0, none⟩))) := fun W' hk => by
      have hm := HMM.out
      have : BdM W' db tb1 tp1 M1 vn1 cb1 cp1 P1 V B st calls := ⟨(hk.block _ (lt_of_heap hm.obj) (fun x => x)).trans hm.obj, hm.tab.keeps hk (fun _ _ x => x), hm.cache.keeps hk (fun x => x) (fun x => x), hm.s1, hm.s2, hm.s3⟩
      exact ⟨this, this.cells.1⟩
    clear hm1 d0 HMM hFp1
    go_upto_region 10 with fail
    refine wp_region_noPanic ?_
    refine wp_region_held_drew (S := fun w' => w'.cell? ⟨db, 0, none⟩ = some (.pointer (some ⟨tb1, 0, none⟩))) (by kernel_rfl) H0 (fun hHeld => ?_)
    refine wpAnyH_take_at (i := 0) (v := ?v0u) rfl (by kernel_rfl) (by kernel_rfl) (by kernel_rfl) (fun _ _ _ h => h) (Or.inl ⟨by rfl, ?y0u⟩) hHeld ?r0u
    case y0u => (intro w hSw; (try dsimp only at hSw); go_simp; first | done | with_reducible rfl)
    (try simp only [Act.put, List.setIfInBounds_toArray, List.set_cons_zero, List.set_cons_succ])
    refine wpAnyH_take_at (i := 1) (v := ?v1u) rfl (by kernel_rfl) (by kernel_rfl) (by kernel_rfl) (fun _ _ _ h => h) (Or.inl ⟨by rfl, ?y1u⟩) hHeld ?r1u
    case y1u => (intro w hSw; (try dsimp only at hSw); go_simp; first | done | with_reducible rfl)
    (try simp only [Act.put, List.setIfInBounds_toArray, List.set_cons_zero, List.set_cons_succ])
    refine wpAnyH_take_at (i := 2) (v := ?v2u) rfl (by kernel_rfl) (by kernel_rfl) (by kernel_rfl) (fun _ _ _ h => h) (Or.inl ⟨by rfl, ?y2u⟩) hHeld ?r2u
    case y2u => (intro w hSw; (try dsimp only at hSw); go_simp; first | done | with_reducible rfl)
    (try simp only [Act.put, List.setIfInBounds_toArray, List.set_cons_zero, List.set_cons_succ])
    refine wpAnyH_take_at (i := 3) (v := ?v3u) rfl (by kernel_rfl) (by kernel_rfl) (by kernel_rfl) (fun _ _ _ h => h) (Or.inl ⟨by rfl, ?y3u⟩) hHeld ?r3u
    case y3u => (intro w hSw; (try dsimp only at hSw); go_simp; first | done | with_reducible rfl)
    (try simp only [Act.put, List.setIfInBounds_toArray, List.set_cons_zero, List.set_cons_succ])
    refine wpAnyH_take_at (i := 4) (v := ?v4u) rfl (by kernel_rfl) (by kernel_rfl) (by kernel_rfl) (fun _ _ _ h => h) (Or.inl ⟨by rfl, ?y4u⟩) hHeld ?r4u
    case y4u => (intro w hSw; (try dsimp only at hSw); go_simp; first | done | with_reducible rfl)
    (try simp only [Act.put, List.setIfInBounds_toArray, List.set_cons_zero, List.set_cons_succ])
    refine wpAnyH_take_at (i := 6) (v := ?v6u) rfl (by kernel_rfl) (by kernel_rfl) (by kernel_rfl) (fun _ _ _ h => h) (Or.inl ⟨by rfl, ?y6u⟩) hHeld ?r6u
    case y6u => (intro w hSw; (try dsimp only at hSw); go_simp; first | done | with_reducible rfl)
    (try simp only [Act.put, List.setIfInBounds_toArray, List.set_cons_zero, List.set_cons_succ])
    refine wpAnyH_take_at (i := 7) (v := ?v7u) rfl (by kernel_rfl) (by kernel_rfl) (by kernel_rfl) (fun _ _ _ h => h) (Or.inl ⟨by rfl, ?y7u⟩) hHeld ?r7u
    case y7u => (intro w hSw; (try dsimp only at hSw); go_simp; first | done | with_reducible rfl)
    (try simp only [Act.put, List.setIfInBounds_toArray, List.set_cons_zero, List.set_cons_succ])
    refine wpAnyH_take_at (i := 8) (v := ?v8u) rfl (by kernel_rfl) (by kernel_rfl) (by kernel_rfl) (fun _ _ _ h => h) (Or.inl ⟨by rfl, ?y8u⟩) hHeld ?r8u
    case y8u => (intro w hSw; (try dsimp only at hSw); go_simp; first | done | with_reducible rfl)
    (try simp only [Act.put, List.setIfInBounds_toArray, List.set_cons_zero, List.set_cons_succ])
    refine wpAnyH_take_at (i := 9) (v := ?v9u) rfl (by kernel_rfl) (by kernel_rfl) (by kernel_rfl) (fun _ _ _ h => h) (Or.inl ⟨by rfl, ?y9u⟩) hHeld ?r9u
    case y9u => (intro w hSw; (try dsimp only at hSw); go_simp; first | done | with_reducible rfl)
    (try simp only [Act.put, List.setIfInBounds_toArray, List.set_cons_zero, List.set_cons_succ])
    refine wpAnyH_take_at (i := 10) (v := ?v10u) rfl (by kernel_rfl) (by kernel_rfl) (by kernel_rfl) (fun _ _ _ h => h) (Or.inl ⟨by rfl, ?y10u⟩) hHeld ?r10u
    case y10u => (intro w hSw; (try dsimp only at hSw); go_simp; first | done | with_reducible rfl)
    (try simp only [Act.put, List.setIfInBounds_toArray, List.set_cons_zero, List.set_cons_succ])
    refine wpAnyH_take_at (i := 12) (v := ?v12u) rfl (by kernel_rfl) (by kernel_rfl) (by kernel_rfl) (fun _ _ _ h => h) (Or.inl ⟨by rfl, ?y12u⟩) hHeld ?r12u
    case y12u => (intro w hSw; (try dsimp only at hSw); go_simp; first | done | with_reducible rfl)
    (try simp only [Act.put, List.setIfInBounds_toArray, List.set_cons_zero, List.set_cons_succ])
    refine wpAnyH_take_at (i := 13) (v := ?v13u) rfl (by kernel_rfl) (by kernel_rfl) (by kernel_rfl) (fun _ _ _ h => h) (Or.inl ⟨by rfl, ?y13u⟩) hHeld ?r13u
    case y13u => (intro w hSw; (try dsimp only at hSw); go_simp; first | done | with_reducible rfl)
    (try simp only [Act.put, List.setIfInBounds_toArray, List.set_cons_zero, List.set_cons_succ])
    refine wpAnyH_take_at (i := 14) (v := ?v14u) rfl (by kernel_rfl) (by kernel_rfl) (by kernel_rfl) (fun _ _ _ h => h) (Or.inl ⟨by rfl, ?y14u⟩) hHeld ?r14u
    case y14u => (intro w hSw; (try dsimp only at hSw); go_simp; first | done | with_reducible rfl)
    (try simp only [Act.put, List.setIfInBounds_toArray, List.set_cons_zero, List.set_cons_succ])
    refine wpAnyH_take_at (i := 15) (v := ?v15u) rfl (by kernel_rfl) (by kernel_rfl) (by kernel_rfl) (fun _ _ _ h => h) (Or.inl ⟨by rfl, ?y15u⟩) hHeld ?r15u
    case y15u => (intro w hSw; (try dsimp only at hSw); go_simp; first | done | with_reducible rfl)
    (try simp only [Act.put, List.setIfInBounds_toArray, List.set_cons_zero, List.set_cons_succ])
    refine wpAnyH_take_at (i := 16) (v := ?v16u) rfl (by kernel_rfl) (by kernel_rfl) (by kernel_rfl) (fun _ _ _ h => h) (Or.inl ⟨by rfl, ?y16u⟩) hHeld ?r16u
    case y16u => (intro w hSw; (try dsimp only at hSw); go_simp; first | done | with_reducible rfl)
    (try simp only [Act.put, List.setIfInBounds_toArray, List.set_cons_zero, List.set_cons_succ])
    refine wpAnyH_one (i := 5) (by kernel_rfl) rfl (fun KK hK => ?_)
    go_simp
    refine (HVAR.out _ _ _ _ _ _ _ _ (HQ.out _ ((Keeps.refl (fun _ => False) wA).drew)).1 _ (.inl rfl)).mono ?_
    rintro e w0 ⟨rfl, hk0⟩
    go_simp
    have hq0 := ((Keeps.refl (fun _ => False) wA).drew).trans hk0
    have hh0 := (HQ.out _ hq0).2
    refine hK.out _ _ ?s5u (fun hHeld => ?_)
    case s5u => exact hh0
    clear hK KK
    (try simp only [Act.put, List.setIfInBounds_toArray, List.set_cons_zero, List.set_cons_succ])
    refine wpAnyH_one (i := 11) (by kernel_rfl) rfl (fun KK hK => ?_)
    go_simp
    refine (HVAR.out _ _ _ _ _ _ _ _ (HQ.out _ hq0).1 _ (.inr (.inl rfl))).mono ?_
    rintro e w1 ⟨rfl, hk1⟩
    go_simp
    have hq1 := hq0.trans hk1
    have hh1 := (HQ.out _ hq1).2
    refine hK.out _ _ ?s11u (fun hHeld => ?_)
    case s11u => exact hh1
    clear hK KK
    (try simp only [Act.put, List.setIfInBounds_toArray, List.set_cons_zero, List.set_cons_succ])
    refine wpAnyH_one (i := 17) (by kernel_rfl) rfl (fun KK hK => ?_)
    go_simp
    refine (HVAR.out _ _ _ _ _ _ _ _ (HQ.out _ hq1).1 _ (.inr (.inr rfl))).mono ?_
    rintro e w2 ⟨rfl, hk2⟩
    go_simp
    have hq2 := hq1.trans hk2
    have hh2 := (HQ.out _ hq2).2
    refine hK.out _ _ ?s17u (fun hHeld => ?_)
    case s17u => exact hh2
    clear hK KK
    (try simp only [Act.put, List.setIfInBounds_toArray, List.set_cons_zero, List.set_cons_succ])
    refine wpAnyH_take_at (i := 18) (v := ?v18u) rfl (by kernel_rfl) (by kernel_rfl) (by kernel_rfl) (fun _ _ _ h => h) (Or.inl ⟨by rfl, ?y18u⟩) hHeld ?r18u
    case y18u => (intro w hSw; (try dsimp only at hSw); go_simp; first | done | with_reducible rfl)
    (try simp only [Act.put, List.setIfInBounds_toArray, List.set_cons_zero, List.set_cons_succ])
    refine wpAnyH_take_at (i := 19) (v := ?v19u) rfl (by kernel_rfl) (by kernel_rfl) (by kernel_rfl) (fun _ _ _ h => h) (Or.inl ⟨by rfl, ?y19u⟩) hHeld ?r19u
    case y19u => (intro w hSw; (try dsimp only at hSw); go_simp; first | done | with_reducible rfl)
    (try simp only [Act.put, List.setIfInBounds_toArray, List.set_cons_zero, List.set_cons_succ])
    refine wpAnyH_done (by kernel_rfl) ?_ _
    refine NoPanic.normal ?_
    rw [HMN.out]
    have HB2 := Lib.hid (HB1.out.quiet hq2)
    have HM2 : Hid (Mv W w2 (bdFp db tb tp vn cb cp) Fp1) := HM1.out.trans (Mv.quiet hq2)
    clear hHeld H0 HQ HVAR HMN HB1 HM1 hq0 hq1 hq2 hk0 hk1 hk2 hh0 hh1 hh2
    go_wp2_with fail
    refine (HH1.out _ _ HB2.out _ (.inl rfl)).mono ?_
    rintro e y0 ⟨rfl, hy0⟩
    go_wp2_with fail
    refine (HH1.out _ _ (HB2.out.quiet hy0) _ (.inr (.inl rfl))).mono ?_
    rintro e y1 ⟨rfl, hy1⟩
    go_wp2_with fail
    refine (HH1.out _ _ (HB2.out.quiet (hy0.trans hy1)) _ (.inr (.inr rfl))).mono ?_
    rintro e y2 ⟨rfl, hy2⟩
    have HB3 := Lib.hid (HB2.out.quiet ((hy0.trans hy1).trans hy2))
    have HM3 : Hid (Mv W y2 (bdFp db tb tp vn cb cp) Fp1) := HM2.out.trans (Mv.quiet ((hy0.trans hy1).trans hy2))
    clear HH1 HB2 HM2 hy0 hy1 hy2
    go_wp2_with fail
    refine (HI1.out _ _ HB3.out).mono ?_
    rintro e wC ⟨rfl, hbC⟩
    obtain ⟨Fp4, hB4, hM4⟩ := hbC.out
    have HB4 := Lib.hid hB4
    have HM4 : Hid (Mv W wC (bdFp db tb tp vn cb cp) Fp4) := HM3.out.trans hM4
    clear HI1 HB3 HM3 hbC hB4 hM4
    go_wp2_with fail
    refine (bspent_spec HB4.out).mono ?_
    rintro e w' ⟨rfl, rfl⟩
    cases hsa : a.2.s with
    | true =>
      have HE := Lib.hid (R1.out hsa)
      clear R1 R2 R34 HI2 HH2 HMK
      go_wp2_with fail
      go_ret
      rw [HE.out]
      exact ⟨rfl, Fp4, HB4.out, HM4.out⟩
    | false =>
      have HR2 := Lib.hid (R2.out hsa)
      have HR34 := Lib.hid (R34.out hsa)
      have HMK2 := Lib.hid (HMK.out hsa)
      have HI22 := Lib.hid (HI2.out hsa)
      clear R1 R2 R34 HI2 HMK
      go_wp2_with fail
      refine (HH2.out _ _ HB4.out _ (.inl rfl)).mono ?_
      rintro e y0 ⟨rfl, hy0⟩
      go_wp2_with fail
      refine (HH2.out _ _ (HB4.out.quiet hy0) _ (.inr (.inl rfl))).mono ?_
      rintro e y1 ⟨rfl, hy1⟩
      go_wp2_with fail
      refine (HH2.out _ _ (HB4.out.quiet (hy0.trans hy1)) _ (.inr (.inr rfl))).mono ?_
      rintro e y2 ⟨rfl, hy2⟩
      have HB5 := Lib.hid (HB4.out.quiet ((hy0.trans hy1).trans hy2))
      have HM5 : Hid (Mv W y2 (bdFp db tb tp vn cb cp) Fp4) := HM4.out.trans (Mv.quiet ((hy0.trans hy1).trans hy2))
      clear HH2 HB4 HM4 hy0 hy1 hy2
      go_wp2_with fail
      refine (HI22.out _ _ HB5.out).mono ?_
      rintro e wD ⟨rfl, hbD⟩
      obtain ⟨Fp6, hB6, hM6⟩ := hbD.out
      have HB6 := Lib.hid hB6
      have HM6 : Hid (Mv W wD (bdFp db tb tp vn cb cp) Fp6) := HM5.out.trans hM6
      clear HI22 HB5 HM5 hbD hB6 hM6
      go_wp2_with fail
      refine (bspent_spec HB6.out).mono ?_
      rintro e w' ⟨rfl, rfl⟩
      cases hsb : b.2.s with
      | true =>
        have HE := Lib.hid (HR2.out hsb)
        clear HR2 HR34 HMK2
        go_wp2_with fail
        go_ret
        rw [HE.out]
        exact ⟨rfl, Fp6, HB6.out, HM6.out⟩
      | false =>
        have HE := Lib.hid (HR34.out hsb)
        have HMK3 := Lib.hid (HMK2.out hsb)
        clear HR2 HR34 HMK2
        go_wp2_with fail
        refine (HMK3.out _ _ HB6.out).mono ?_
        rintro e wE ⟨rfl, hbE⟩
        obtain ⟨Fp7, hB7, hM7⟩ := hbE.out
        have HB7 := Lib.hid hB7
        have HM7 : Hid (Mv W wE (bdFp db tb tp vn cb cp) Fp7) := HM6.out.trans hM7
        clear HMK3 HB6 HM6 hbE hB7 hM7
        go_wp2_with fail
        refine (bspent_spec HB7.out).mono ?_
        rintro e w' ⟨rfl, rfl⟩
        cases hsm : m.2.s with
        | true =>
          have HE2 : Hid (res = (m.1, m.2)) := by have e := HE.out; rw [if_pos hsm] at e; exact e
          clear HE
          go_wp2_with fail
          go_ret
          rw [HE2.out]
          exact ⟨rfl, Fp7, HB7.out, HM7.out⟩
        | false =>
          have HE2 : Hid (res = (m.1, { m.2 with F := keep 4096 m.2.F 0 f g h m.1 })) := by have e := HE.out; rw [if_neg (by rw [hsm]; decide)] at e; exact e
          clear HE
          obtain ⟨tb8, tp8, M8, vn8, cb8, cp8, P8, hm8, rfl⟩ := HB7.out
          obtain ⟨_, d8, _⟩ := hm8.cells
          have HPUT := Lib.hid (hm8.put f g h m.1)
          clear hm8 HB7
          go_wp2_with fail
          refine HPUT.out.mono ?_
          rintro e wF ⟨rfl, hbF⟩
          clear HPUT d8
          go_wp2_with fail
          go_ret
          rw [HE2.out]
          obtain ⟨Fp9, hB9, hM9⟩ := hbF.out
          exact ⟨rfl, Fp9, hB9, HM7.out.trans hM9⟩
theorem ite_spec (hV0 : 0 ≤ V) (hV : V ≤ 61) : ∀ d, IteSpec V B db calls d
  | 0 => fun st W Fp f g h hB ok hf hg hh hmn hn h0 h1 => by
    have ht := var_term ok.good hf (by unfold mn at hmn; omega)
    unfold iteM iteHead
    by_cases c1 : f = 1 ∨ g = h
    · rw [if_pos c1]
      by_cases c2 : f = 1
      · subst c2
        refine (ite_low1 W db g h).mono ?_
        rintro e W' ⟨rfl, rfl⟩
        exact ⟨rfl, BdTo.refl hB⟩
      · obtain rfl : g = h := c1.resolve_left c2
        refine (ite_low2 W db f g c2).mono ?_
        rintro e W' ⟨rfl, rfl⟩
        exact ⟨rfl, BdTo.refl hB⟩
    · rw [if_neg c1]
      obtain rfl : f = 0 := ht.resolve_right (fun e => c1 (.inl e))
      rw [if_pos rfl]
      refine (ite_low3 W db g h (fun e => c1 (.inr e))).mono ?_
      rintro e W' ⟨rfl, rfl⟩
      exact ⟨rfl, BdTo.refl hB⟩
  | d + 1 => fun st W Fp f g h hB ok hf hg hh hmn hn h0 h1 => by
    have h2d : 1 ≤ 2 ^ (d + 1) := Nat.one_le_two_pow
    unfold iteM iteHead
    by_cases c1 : f = 1 ∨ g = h
    · rw [if_pos c1]
      by_cases c2 : f = 1
      · subst c2
        refine (ite_low1 W db g h).mono ?_
        rintro e W' ⟨rfl, rfl⟩
        exact ⟨rfl, BdTo.refl hB⟩
      · obtain rfl : g = h := c1.resolve_left c2
        refine (ite_low2 W db f g c2).mono ?_
        rintro e W' ⟨rfl, rfl⟩
        exact ⟨rfl, BdTo.refl hB⟩
    rw [if_neg c1]
    by_cases c2 : f = 0
    · rw [if_pos c2]
      subst c2
      refine (ite_low3 W db g h (fun e => c1 (.inr e))).mono ?_
      rintro e W' ⟨rfl, rfl⟩
      exact ⟨rfl, BdTo.refl hB⟩
    rw [if_neg c2]
    by_cases c3 : g = 1 ∧ h = 0
    · rw [if_pos c3]
      obtain ⟨rfl, rfl⟩ := c3
      refine (ite_low4 W db f (fun e => c1 (.inl e)) c2).mono ?_
      rintro e W' ⟨rfl, rfl⟩
      exact ⟨rfl, BdTo.refl hB⟩
    rw [if_neg c3]
    have hd : Deep' f g h := ⟨fun e => c1 (.inl e), c2, fun e => c1 (.inr e), c3⟩
    cases hl : look 4096 st.F 0 f g h with
    | some x => exact ite_hit hB h0 (by omega) hd hl
    | none => exact ite_miss hV0 hV (ite_spec hV0 hV d) hB ok hf hg hh hmn hn h0 h1 hd hl
end
end Go.Proofs.Ytloidoekmicloaa
