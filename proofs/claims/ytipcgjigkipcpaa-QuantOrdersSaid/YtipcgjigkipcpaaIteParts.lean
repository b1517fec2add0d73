/-
  A half of a diagram, a node more, an answer kept.
-/
import Derived.Test.YtipcgjigkipcpaaIteMem
set_option linter.unusedVariables false
set_option linter.unusedSimpArgs false
set_option linter.unnecessarySimpa false
namespace Go.Proofs.Ytipcgjigkipcpaa
open Go.ChangeShapes Go.WideShapes Go.ChangeAt Go.RowKit Go.Deep NodePlain
section
variable {W W' : World} {db : Nat} {V B : Int} {st : St} {calls : Int} {Fp : Nat → Prop}
set_option maxRecDepth 100000
set_option maxHeartbeats 1600000
theorem half_spec (h : Bd W db V B st calls Fp) (hn : st.n ≤ 1000000000) (f v : Int) (hf0 : -9223372036854775808 ≤ f) (hf : f ≤ 9223372036854775807) (hi : Bool) :
    Calls Try.prog 95 #[.pointer (some ⟨db, 0, none⟩), .int .i64 f, .int .i64 v, .bool hi] W fun e W' => e = .returned (.int .i64 (halfN st.L st.n f v hi)) ∧ Below W.heap.size W W' := by
  obtain ⟨tb, tp, M, vn, cb, cp, P, h, rfl⟩ := h
  obtain ⟨c0, _, _⟩ := h.cells
  have HC0 := Lib.hid (tget_spec h.tab.mem (by omega) f hf0 hf)
  clear h
  unfold halfN
  cases hg : getN st.L st.n f with
  | none =>
    rw [hg] at HC0
    have HC : Hid (Calls Try.prog 89 #[.pointer (some ⟨tb, 0, none⟩), .int .i64 f] W fun e W' => e = .returned (.tuple #[.agg #[.int .i64 0, .int .i64 0, .int .i64 0], .bool false]) ∧ Below W.heap.size W W') := HC0.out
    clear HC0 hg
    go_enter Try.func95, Try.ntmps95
    go_wp2_with (go_at_call 89; refine HC.out.mono ?_; rintro e wA ⟨rfl, hb⟩)
    go_ret
    exact ⟨rfl, hb.trans (((Keeps.refl (fun _ => False) _).alloc _).below hb.size (fun _ _ x => x))⟩
  | some x =>
    obtain ⟨xv, xl, xh⟩ := x
    rw [hg] at HC0
    have HC : Hid (Calls Try.prog 89 #[.pointer (some ⟨tb, 0, none⟩), .int .i64 f] W fun e W' => e = .returned (.tuple #[.agg #[.int .i64 xv, .int .i64 xl, .int .i64 xh], .bool true]) ∧ Below W.heap.size W W') := HC0.out
    clear HC0 hg
    simp only []
    by_cases he : xv = v
    · subst he
      rw [if_pos rfl]
      cases hi with
      | true =>
        rw [if_pos rfl]
        go_enter Try.func95, Try.ntmps95
        go_wp2_with (go_at_call 89; refine HC.out.mono ?_; rintro e wA ⟨rfl, hb⟩)
        go_ret
        exact ⟨rfl, hb.trans (((Keeps.refl (fun _ => False) _).alloc _).below hb.size (fun _ _ x => x))⟩
      | false =>
        rw [if_neg (by decide)]
        go_enter Try.func95, Try.ntmps95
        go_wp2_with (go_at_call 89; refine HC.out.mono ?_; rintro e wA ⟨rfl, hb⟩)
        go_ret
        exact ⟨rfl, hb.trans (((Keeps.refl (fun _ => False) _).alloc _).below hb.size (fun _ _ x => x))⟩
    · rw [if_neg he]
      have he2 : (xv != v) = true := bne_iff_ne.2 he
      go_enter Try.func95, Try.ntmps95
      go_wp2_with (go_at_call 89; refine HC.out.mono ?_; rintro e wA ⟨rfl, hb⟩)
      go_ret
      exact ⟨rfl, hb.trans (((Keeps.refl (fun _ => False) _).alloc _).below hb.size (fun _ _ x => x))⟩
/-- What a call leaves. -/
def BdTo (db : Nat) (V B : Int) (st' : St) (calls' : Int) (W : World) (Fp : Nat → Prop) (W' : World) : Prop := ∃ Fp', Bd W' db V B st' calls' Fp' ∧ Mv W W' Fp Fp'
theorem bmake_spec (h : Bd W db V B st calls Fp) (hn : st.n ≤ 1000000000) (v lo hi : Int) (hv0 : -9223372036854775808 ≤ v) (hv1 : v ≤ 9223372036854775807) (hl0 : -9223372036854775808 ≤ lo) (hl1 : lo ≤ 9223372036854775807) (hh0 : -9223372036854775808 ≤ hi) (hh1 : hi ≤ 9223372036854775807) :
    Calls Try.prog 66 #[.pointer (some ⟨db, 0, none⟩), .int .i64 v, .int .i64 lo, .int .i64 hi] W fun e W' => e = .returned (.int .i64 (makeM V B st v lo hi).1) ∧ Hid (BdTo db V B (makeM V B st v lo hi).2 calls W Fp W') := by
  obtain ⟨tb, tp, M, vn, cb, cp, P, h, rfl⟩ := h
  obtain ⟨c0, _, _⟩ := h.cells
  have HC : Hid (Calls Try.prog 90 #[.pointer (some ⟨tb, 0, none⟩), .int .i64 v, .int .i64 lo, .int .i64 hi] W fun e W' => ∃ er, e = .returned (.tuple #[.int .i64 (makeM V B st v lo hi).1, .int .i64 er]) ∧ Hid (BdTo db V B (makeM V B st v lo hi).2 calls W (bdFp db tb tp vn cb cp) W')) := by
    refine (tmake_spec h.tab hn v lo hi hv0 hv1 hl0 hl1 hh0 hh1).mono ?_
    rintro e W' ⟨rfl, bp', M', vn', P', ht, hk, hf⟩
    refine ⟨_, rfl, bdFp db tb bp' vn' cb cp, ⟨tb, bp', M', vn', cb, cp, P', ⟨?_, ht, ?_, fun x hx => ?_, h.s2, h.s3⟩, rfl⟩, ?_, ?_⟩
    · exact (hk.block _ (lt_of_heap h.obj) (fun hx => (h.s1 _ hx).1 rfl)).trans h.obj
    · exact h.cache.keeps hk (fun hx => (h.s1 _ hx).2.1 rfl) (fun hx => (h.s1 _ hx).2.2 rfl)
    · rcases hf x hx with hx | hx
      · exact h.s1 x hx
      · have l1 := lt_of_heap h.obj
        have l2 := h.cache.lt
        exact ⟨by omega, by omega, by omega⟩
    · exact hk.mono (fun x _ hx => .inr (.inl hx))
    · rintro x (hx | hx | hx)
      · exact .inl (.inl hx)
      · rcases hf x hx with hx | hx
        · exact .inl (.inr (.inl hx))
        · exact .inr hx
      · exact .inl (.inr (.inr hx))
  clear h
  generalize makeM V B st v lo hi = m at HC ⊢
  go_enter Try.func66, Try.ntmps66
  go_wp2_with (first | (go_at_call 90; refine HC.out.mono ?_; rintro e wA ⟨er, rfl, hb⟩) | go_in)
  go_ret
  exact ⟨rfl, hb⟩
end
end Go.Proofs.Ytipcgjigkipcpaa
