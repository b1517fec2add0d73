/-
  A maker of diagrams in memory.
-/
import Derived.Test.YtloidoekmicloaaItePlain
import Derived.Test.YtloidoekmicloaaNodeAt
set_option linter.unusedVariables false
set_option linter.unusedSimpArgs false
set_option linter.unnecessarySimpa false
namespace Go.Proofs.Ytloidoekmicloaa
open Go.ChangeShapes Go.WideShapes Go.ChangeAt Go.RowKit Go.Deep NodePlain
structure BdM (W : World) (db tb tp M : Nat) (vn : Value) (cb cp : Nat) (P : Nat → Nat) (V B : Int) (st : St) (calls : Int) : Prop where
  obj : W.heap[db]? = some (.cells #[.pointer (some ⟨tb, 0, none⟩), .pointer (some ⟨cb, 0, none⟩), .int .i64 calls] 58 (0, 0))
  tab : TabAll W tb tp M vn V B st.L st.n P st.s
  cache : CacheAt W cb cp 4096 st.hits st.F
  s1 : ∀ x, tabFp tb tp vn x → x ≠ db ∧ x ≠ cb ∧ x ≠ cp
  s2 : cb ≠ db
  s3 : cp ≠ db
def bdFp (db tb tp : Nat) (vn : Value) (cb cp : Nat) : Nat → Prop := fun x => x = db ∨ tabFp tb tp vn x ∨ x = cb ∨ x = cp
/-- A maker at db: its memory, and its blocks. -/
def Bd (W : World) (db : Nat) (V B : Int) (st : St) (calls : Int) (Fp : Nat → Prop) : Prop := ∃ tb tp M vn cb cp P, BdM W db tb tp M vn cb cp P V B st calls ∧ Fp = bdFp db tb tp vn cb cp
/-- From a world to one behind it: of older memory just these blocks may have turned. -/
structure Mv (W W' : World) (Fp Fp' : Nat → Prop) : Prop where
  keeps : Keeps Fp W W'
  fp : ∀ x, Fp' x → Fp x ∨ W.heap.size ≤ x
theorem Mv.refl (W : World) (Fp : Nat → Prop) : Mv W W Fp Fp := ⟨Keeps.refl _ _, fun _ h => .inl h⟩
theorem Mv.quiet {W W' : World} {Fp : Nat → Prop} (h : Keeps (fun _ => False) W W') : Mv W W' Fp Fp := ⟨h.mono (fun _ _ x => x.elim), fun _ h => .inl h⟩
theorem Mv.trans {W W1 W2 : World} {A B C : Nat → Prop} (h : Mv W W1 A B) (k : Mv W1 W2 B C) : Mv W W2 A C :=
  ⟨h.keeps.trans_new k.keeps (fun i hi hx => (h.fp i hx).resolve_right (by omega)), fun x hx => (k.fp x hx).elim (fun hx => h.fp x hx) (fun hx => .inr (Nat.le_trans h.keeps.size hx))⟩
section
variable {W W' : World} {db : Nat} {V B : Int} {st : St} {calls : Int} {Fp : Nat → Prop}
theorem BdM.lt {tb tp M : Nat} {vn : Value} {cb cp : Nat} {P : Nat → Nat} (h : BdM W db tb tp M vn cb cp P V B st calls) : ∀ x, bdFp db tb tp vn cb cp x → x < W.heap.size := by
  rintro x (rfl | hx | rfl | rfl)
  · exact lt_of_heap h.obj
  · exact h.tab.mem.lt x hx
  · exact h.cache.lt.1
  · exact h.cache.lt.2
theorem Bd.lt (h : Bd W db V B st calls Fp) : ∀ x, Fp x → x < W.heap.size := by
  obtain ⟨tb, tp, M, vn, cb, cp, P, h, rfl⟩ := h
  exact h.lt
theorem Bd.keeps (h : Bd W db V B st calls Fp) {S : Nat → Prop} (hk : Keeps S W W') (hs : ∀ x, Fp x → ¬ S x) : Bd W' db V B st calls Fp := by
  obtain ⟨tb, tp, M, vn, cb, cp, P, h, rfl⟩ := h
  exact ⟨tb, tp, M, vn, cb, cp, P, ⟨(hk.block _ (lt_of_heap h.obj) (hs _ (.inl rfl))).trans h.obj, h.tab.keeps hk (fun k hx => hs k (.inr (.inl hx))), h.cache.keeps hk (hs _ (.inr (.inr (.inl rfl)))) (hs _ (.inr (.inr (.inr rfl)))), h.s1, h.s2, h.s3⟩, rfl⟩
theorem Bd.quiet (h : Bd W db V B st calls Fp) (hk : Keeps (fun _ => False) W W') : Bd W' db V B st calls Fp := h.keeps hk (fun _ _ x => x)
theorem Bd.good (h : Bd W db V B st calls Fp) : NodePlain.Good V st.L st.n := by
  obtain ⟨tb, tp, M, vn, cb, cp, P, h, rfl⟩ := h
  exact h.tab.good
theorem BdM.cells {tb tp M : Nat} {vn : Value} {cb cp : Nat} {P : Nat → Nat} (h : BdM W db tb tp M vn cb cp P V B st calls) :
    W.cell? ⟨db, 0, none⟩ = some (.pointer (some ⟨tb, 0, none⟩)) ∧ W.cell? ⟨db, 1, none⟩ = some (.pointer (some ⟨cb, 0, none⟩)) ∧ W.cell? ⟨db, 2, none⟩ = some (.int .i64 calls) := by
  refine ⟨?_, ?_, ?_⟩ <;> rw [cell_of_heap h.obj] <;> rfl
set_option maxRecDepth 100000
set_option maxHeartbeats 1600000
theorem bspent_spec (h : Bd W db V B st calls Fp) : Calls Try.prog 38 #[.pointer (some ⟨db, 0, none⟩)] W fun e W' => e = .returned (.bool st.s) ∧ W = W' := by
  obtain ⟨tb, tp, M, vn, cb, cp, P, h, rfl⟩ := h
  obtain ⟨c0, _, _⟩ := h.cells
  have HC := Lib.hid (tspent_spec h.tab.mem)
  clear h
  go_enter Try.func38, Try.ntmps38
  go_wp2_with (first | (go_at_call 58; refine HC.out.mono ?_; rintro e w' ⟨rfl, rfl⟩) | go_in)
  go_ret
  exact ⟨rfl, rfl⟩
theorem bvars_spec (h : Bd W db V B st calls Fp) : Calls Try.prog 40 #[.pointer (some ⟨db, 0, none⟩)] W fun e W' => e = .returned (.int .i64 V) ∧ W = W' := by
  obtain ⟨tb, tp, M, vn, cb, cp, P, h, rfl⟩ := h
  obtain ⟨c0, _, _⟩ := h.cells
  have HC := Lib.hid (tvars_spec h.tab.mem)
  clear h
  go_enter Try.func40, Try.ntmps40
  go_wp2_with (first | (go_at_call 62; refine HC.out.mono ?_; rintro e w' ⟨rfl, rfl⟩) | go_in)
  go_ret
  exact ⟨rfl, rfl⟩
theorem bis_spec (h : Bd W db V B st calls Fp) (hn : st.n ≤ 1000000000) (k : Int) (hk : k ≤ 9223372036854775807) : Calls Try.prog 36 #[.pointer (some ⟨db, 0, none⟩), .int .i64 k] W fun e W' => e = .returned (.bool (isN st.n k)) ∧ W = W' := by
  obtain ⟨tb, tp, M, vn, cb, cp, P, h, rfl⟩ := h
  obtain ⟨c0, _, _⟩ := h.cells
  have HC := Lib.hid (tis_spec h.tab.mem (by omega) k hk)
  clear h
  go_enter Try.func36, Try.ntmps36
  go_wp2_with (first | (go_at_call 52; refine HC.out.mono ?_; rintro e w' ⟨rfl, rfl⟩) | go_in)
  go_ret
  exact ⟨rfl, rfl⟩
theorem bat_spec (h : Bd W db V B st calls Fp) (hV : V ≤ 61) (hn : st.n ≤ 1000000000) (k : Int) (hk0 : -9223372036854775808 ≤ k) (hk : k ≤ 9223372036854775807) (X : Nat) (hX : X < 18446744073709551616) :
    Calls Try.prog 16 #[.pointer (some ⟨db, 0, none⟩), .int .i64 k, .int .u64 X] W fun e W' => e = .returned (.bool (isN st.n k && ev st.L (Nat.testBit X) k)) ∧ Below W.heap.size W W' := by
  obtain ⟨tb, tp, M, vn, cb, cp, P, h, rfl⟩ := h
  obtain ⟨c0, _, _⟩ := h.cells
  have HC := Lib.hid (tat_spec h.tab.mem h.tab.good hV (by omega) k hk0 hk X hX)
  clear h
  go_enter Try.func16, Try.ntmps16
  go_wp2_with (first | (go_at_call 42; refine HC.out.mono ?_; rintro e w' ⟨rfl, hb⟩) | go_in)
  go_ret
  exact ⟨rfl, hb⟩
end
end Go.Proofs.Ytloidoekmicloaa
/-
  A half of a diagram, a node more, an answer kept.
-/
set_option linter.unusedVariables false
set_option linter.unusedSimpArgs false
set_option linter.unnecessarySimpa false
namespace Go.Proofs.Ytloidoekmicloaa
open Go.ChangeShapes Go.WideShapes Go.ChangeAt Go.RowKit Go.Deep NodePlain
section
variable {W W' : World} {db : Nat} {V B : Int} {st : St} {calls : Int} {Fp : Nat → Prop}
set_option maxRecDepth 100000
set_option maxHeartbeats 1600000
theorem half_spec (h : Bd W db V B st calls Fp) (hn : st.n ≤ 1000000000) (f v : Int) (hf0 : -9223372036854775808 ≤ f) (hf : f ≤ 9223372036854775807) (hi : Bool) :
    Calls Try.prog 69 #[.pointer (some ⟨db, 0, none⟩), .int .i64 f, .int .i64 v, .bool hi] W fun e W' => e = .returned (.int .i64 (halfN st.L st.n f v hi)) ∧ Below W.heap.size W W' := by
  obtain ⟨tb, tp, M, vn, cb, cp, P, h, rfl⟩ := h
  obtain ⟨c0, _, _⟩ := h.cells
  have HC0 := Lib.hid (tget_spec h.tab.mem (by omega) f hf0 hf)
  clear h
  unfold halfN
  cases hg : getN st.L st.n f with
  | none =>
    rw [hg] at HC0
    have HC : Hid (Calls Try.prog 83 #[.pointer (some ⟨tb, 0, none⟩), .int .i64 f] W fun e W' => e = .returned (.tuple #[.agg #[.int .i64 0, .int .i64 0, .int .i64 0], .bool false]) ∧ Below W.heap.size W W') := HC0.out
    clear HC0 hg
    go_enter Try.func69, Try.ntmps69
    go_wp2_with (go_at_call 83; refine HC.out.mono ?_; rintro e wA ⟨rfl, hb⟩)
    go_ret
    exact ⟨rfl, hb.trans (((Keeps.refl (fun _ => False) _).alloc _).below hb.size (fun _ _ x => x))⟩
  | some x =>
    obtain ⟨xv, xl, xh⟩ := x
    rw [hg] at HC0
    have HC : Hid (Calls Try.prog 83 #[.pointer (some ⟨tb, 0, none⟩), .int .i64 f] W fun e W' => e = .returned (.tuple #[.agg #[.int .i64 xv, .int .i64 xl, .int .i64 xh], .bool true]) ∧ Below W.heap.size W W') := HC0.out
    clear HC0 hg
    simp only []
    by_cases he : xv = v
    · subst he
      rw [if_pos rfl]
      cases hi with
      | true =>
        rw [if_pos rfl]
        go_enter Try.func69, Try.ntmps69
        go_wp2_with (go_at_call 83; refine HC.out.mono ?_; rintro e wA ⟨rfl, hb⟩)
        go_ret
        exact ⟨rfl, hb.trans (((Keeps.refl (fun _ => False) _).alloc _).below hb.size (fun _ _ x => x))⟩
      | false =>
        rw [if_neg (by decide)]
        go_enter Try.func69, Try.ntmps69
        go_wp2_with (go_at_call 83; refine HC.out.mono ?_; rintro e wA ⟨rfl, hb⟩)
        go_ret
        exact ⟨rfl, hb.trans (((Keeps.refl (fun _ => False) _).alloc _).below hb.size (fun _ _ x => x))⟩
    · rw [if_neg he]
      have he2 : (xv != v) = true := bne_iff_ne.2 he
      go_enter Try.func69, Try.ntmps69
      go_wp2_with (go_at_call 83; refine HC.out.mono ?_; rintro e wA ⟨rfl, hb⟩)
      go_ret
      exact ⟨rfl, hb.trans (((Keeps.refl (fun _ => False) _).alloc _).below hb.size (fun _ _ x => x))⟩
/-- What a call leaves. -/
def BdTo (db : Nat) (V B : Int) (st' : St) (calls' : Int) (W : World) (Fp : Nat → Prop) (W' : World) : Prop := ∃ Fp', Bd W' db V B st' calls' Fp' ∧ Mv W W' Fp Fp'
theorem bmake_spec (h : Bd W db V B st calls Fp) (hn : st.n ≤ 1000000000) (v lo hi : Int) (hv0 : -9223372036854775808 ≤ v) (hv1 : v ≤ 9223372036854775807) (hl0 : -9223372036854775808 ≤ lo) (hl1 : lo ≤ 9223372036854775807) (hh0 : -9223372036854775808 ≤ hi) (hh1 : hi ≤ 9223372036854775807) :
    Calls Try.prog 50 #[.pointer (some ⟨db, 0, none⟩), .int .i64 v, .int .i64 lo, .int .i64 hi] W fun e W' => e = .returned (.int .i64 (makeM V B st v lo hi).1) ∧ Hid (BdTo db V B (makeM V B st v lo hi).2 calls W Fp W') := by
  obtain ⟨tb, tp, M, vn, cb, cp, P, h, rfl⟩ := h
  obtain ⟨c0, _, _⟩ := h.cells
  have HC : Hid (Calls Try.prog 66 #[.pointer (some ⟨tb, 0, none⟩), .int .i64 v, .int .i64 lo, .int .i64 hi] W fun e W' => ∃ er, e = .returned (.tuple #[.int .i64 (makeM V B st v lo hi).1, .int .i64 er]) ∧ Hid (BdTo db V B (makeM V B st v lo hi).2 calls W (bdFp db tb tp vn cb cp) W')) := by
    refine (tmake_spec h.tab hn v lo hi hv0 hv1 hl0 hl1 hh0 hh1).mono ?_
    rintro e W' ⟨rfl, bp', M', vn', P', ht, hk, hf⟩
    refine ⟨_, rfl, bdFp db tb bp' vn' cb cp, ⟨tb, bp', M', vn', cb, cp, P', ⟨?_, ht, ?_, fun x hx => ?_, h.s2, h.s3⟩, rfl⟩, ?_, ?_⟩
    · exact (hk.block _ (lt_of_heap h.obj) (fun hx => (h.s1 _ hx).1 rfl)).trans h.obj
    · exact h.cache.keeps hk (fun hx => (h.s1 _ hx).2.1 rfl) (fun hx => (h.s1 _ hx).2.2 rfl)
    · rcases hf x hx with hx | hx
      · exact h.s1 x hx
      · have l1 := lt_of_heap h.obj
        have l2 := h.cache.lt
        exact ⟨by omega, by omega, by omega⟩
    · exact hk.mono (fun x _ hx => .inr (.inl hx))
    · rintro x (hx | hx | hx)
      · exact .inl (.inl hx)
      · rcases hf x hx with hx | hx
        · exact .inl (.inr (.inl hx))
        · exact .inr hx
      · exact .inl (.inr (.inr hx))
  clear h
  generalize makeM V B st v lo hi = m at HC ⊢
  go_enter Try.func50, Try.ntmps50
  go_wp2_with (first | (go_at_call 66; refine HC.out.mono ?_; rintro e wA ⟨er, rfl, hb⟩) | go_in)
  go_ret
  exact ⟨rfl, hb⟩
end
end Go.Proofs.Ytloidoekmicloaa
