/-
  A maker behind a play: not, some and each of one variable, the variables and the size of a diagram; and what is no diagram.
-/
import Derived.Test.YtfakjhcpaiaekaaQuantState
import Derived.Test.YtfakjhcpaiaekaaQuantSupport
set_option linter.unusedVariables false
set_option linter.unusedSimpArgs false
set_option linter.unnecessarySimpa false
namespace Go.Proofs.Ytfakjhcpaiaekaa
open Go.ChangeShapes Go.WideShapes Go.ChangeAt Go.RowKit Go.Deep NodePlain
theorem Dfs.nodup {L : Nat → Nd} {n : Nat} {K K1 : List Int} {f : Int} (h : Dfs L n K f K1) : K.Nodup → K1.Nodup := by
  induction h with
  | stop K f h => exact fun h => h
  | step K K1 K2 f u lo hi h1 h2 _ _ i1 i2 =>
    intro hk
    refine i2 (i1 ?_)
    rw [List.nodup_append]
    exact ⟨hk, by simp, fun a ha b hb e => h1 (by
      have : b = f := by simpa using hb
      rw [← this, ← e]; exact ha)⟩
theorem dfs_len {L : Nat → Nd} {n : Nat} {K : List Int} {f : Int} (h : Dfs L n [] f K) : K.length ≤ n := by
  have hn := h.nodup List.nodup_nil
  have ha := h.all
  have hsub : K ⊆ (List.range n).map fun i : Nat => (i : Int) + 2 := fun x hx => by
    have hs := (ha.known x hx).resolve_left (by simp)
    unfold getN at hs
    split at hs
    · rename_i hc
      rw [List.mem_map]
      exact ⟨(x - 2).toNat, List.mem_range.2 (by omega), by omega⟩
    · cases hs
  have := hn.length_le_of_subset hsub
  simpa using this
theorem nodep_put {E : (Nat → Bool) → Bool} {v : Int} (h : ¬ DepE E v) (β : Nat → Bool) (so : Bool) : E (putB β v so) = E β := by
  have heq : ∀ β, E (putB β v false) = E (putB β v true) := fun β => Classical.byContradiction fun e => h ⟨β, e⟩
  have hown : ∃ b, putB β v b = β := by
    by_cases h0 : 0 ≤ v
    · obtain ⟨n, rfl⟩ := Int.eq_ofNat_of_zero_le h0
      exact ⟨β n, putB_own β n⟩
    · refine ⟨false, ?_⟩
      funext i
      exact putB_other (by omega)
  obtain ⟨b, hb⟩ := hown
  have h1 := heq β
  have e2 : E (putB β v so) = E (putB β v b) := by cases so <;> cases b <;> simp [h1]
  rw [e2, hb]
theorem row1 {W : World} {a : Int} : ReadsI (W.alloc (.cells #[.int .i64 a] 3)) (.slice (some ⟨W.heap.size, 0, none⟩) 1 1) [a] := by
  have ha := (MapKept.heap_alloc W (.cells #[.int .i64 a] 3)).1
  refine ⟨_, 1, rfl, by simp, fun _ => ⟨W.heap.size, 0, rfl, lt_of_heap ha, fun j x hx => ?_⟩⟩
  rw [cell_of_heap ha]
  match j, hx with
  | 0, hx => simp at hx; subst hx; rfl
  | j + 1, hx => simp at hx
section
variable {w W W' : World} {k : Nat} {s : PlS} {u c : Nat} {d lb : Nat} {st : St} {kc : Nat} {calls : Int} {F : Nat → Prop}
/-- Some and Each, of any row that is not the maker's own. -/
theorem MkS.someR (or : Bool) (h : MkS w W k s u c d lb st kc calls F) (hk6 : k ≤ 6) (hu : u ≤ 900000) (hc : c ≤ 20000) {f : Int} {E : (Nat → Bool) → Bool} (hf : Num st f E) {v : Value} {l : List Int} (hr : ReadsI W v l) (hrf : ∀ g off n cap, v = .slice (some ⟨g, off, none⟩) n cap → 0 < l.length → ¬ F g) (hl : l.length ≤ 8) :
    Calls Try.prog (if or then 21 else 23) #[.pointer (some ⟨d, 0, none⟩), .int .i64 f, v] W (QPost w k s u c (4 * l.length) d lb st (eachEv or E l)) := by
  have hn := h.n
  have hk := h.kc
  have hc1 := h.c1
  have hp := Nat.mul_le_mul (show 4 * l.length ≤ 32 by omega) (pow6 hk6)
  cases or with
  | true =>
    refine (some_spec h.bd (by omega) (by omega) h.fine hf.is rfl hr hrf (by omega) (by omega) h.c0 (by omega) (by omega)).mono ?_
    rintro e W2 ⟨x, st', F', rfl, hm⟩
    exact ⟨x, st', _, _, F', rfl, h.step hk6 hm.out (by omega) (by omega), hm.out.ext, hm.out.isx, fun β => by rw [hm.out.ev]; congr 1; funext γ; exact hf.ev γ⟩
  | false =>
    refine (qeach_spec h.bd (by omega) (by omega) h.fine hf.is rfl hr hrf (by omega) (by omega) h.c0 (by omega) (by omega)).mono ?_
    rintro e W2 ⟨x, st', F', rfl, hm⟩
    exact ⟨x, st', _, _, F', rfl, h.step hk6 hm.out (by omega) (by omega), hm.out.ext, hm.out.isx, fun β => by rw [hm.out.ev]; congr 1; funext γ; exact hf.ev γ⟩
theorem MkS.some1 (h : MkS w W k s u c d lb st kc calls F) (hk6 : k ≤ 6) (hu : u ≤ 900000) (hc : c ≤ 20000) {f : Int} {E : (Nat → Bool) → Bool} (hf : Num st f E) (a : Int) :
    Calls Try.prog 21 #[.pointer (some ⟨d, 0, none⟩), .int .i64 f, .slice (some ⟨W.heap.size, 0, none⟩) 1 1] (W.alloc (.cells #[.int .i64 a] 3)) (QPost w k s u c 4 d lb st (eachEv true E [a])) := by
  have hq := h.quiet ((Keeps.refl (fun _ => False) W).alloc (.cells #[.int .i64 a] 3))
  exact hq.someR true hk6 hu hc hf row1 (fun g off n cap e _ hg => by
    simp only [Value.slice.injEq, Option.some.injEq, Addr.mk.injEq] at e
    have := h.bd.lt g hg
    omega) (by simp)
theorem MkS.each1 (h : MkS w W k s u c d lb st kc calls F) (hk6 : k ≤ 6) (hu : u ≤ 900000) (hc : c ≤ 20000) {f : Int} {E : (Nat → Bool) → Bool} (hf : Num st f E) (a : Int) :
    Calls Try.prog 23 #[.pointer (some ⟨d, 0, none⟩), .int .i64 f, .slice (some ⟨W.heap.size, 0, none⟩) 1 1] (W.alloc (.cells #[.int .i64 a] 3)) (QPost w k s u c 4 d lb st (eachEv false E [a])) := by
  have hq := h.quiet ((Keeps.refl (fun _ => False) W).alloc (.cells #[.int .i64 a] 3))
  exact hq.someR false hk6 hu hc hf row1 (fun g off n cap e _ hg => by
    simp only [Value.slice.injEq, Option.some.injEq, Addr.mk.injEq] at e
    have := h.bd.lt g hg
    omega) (by simp)
theorem MkS.notN (h : MkS w W k s u c d lb st kc calls F) (hk6 : k ≤ 6) (hu : u ≤ 900000) (hc : c ≤ 20000) {f : Int} {E : (Nat → Bool) → Bool} (hf : Num st f E) :
    Calls Try.prog 22 #[.pointer (some ⟨d, 0, none⟩), .int .i64 f] W (QPost w k s u c 1 d lb st (fun β => !E β)) := by
  have hn := h.n
  have hk := h.kc
  have hc0 := h.c0
  have hc1 := h.c1
  have hp := pow6 hk6
  have q := bnot_spec (V := (k : Int)) (by omega) (by omega) h.bd h.fine.wf (by omega) hf.is h.c0 (by omega)
  rw [opG_no (h.ns (by omega))] at q
  have h0 : isN st.n 0 = true := isN_iff.2 ⟨by omega, by omega⟩
  have h1 : isN st.n 1 = true := isN_iff.2 ⟨by omega, by omega⟩
  obtain ⟨r, hr⟩ : ∃ r, iteT (k : Int) 1048576 st f 0 1 = r := ⟨_, rfl⟩
  rw [hr] at q
  obtain ⟨f1, i1, n1, x1, s1, v1⟩ := ite_fine (V := (k : Int)) (by omega) (by omega) h.fine hf.is h0 h1 (by omega) hr
  refine q.mono ?_
  rintro e W2 ⟨rfl, hx⟩
  obtain ⟨F', hb, hm⟩ := hx.out
  refine ⟨r.1, r.2, kc + 1, calls + 1, F', rfl, h.move hb hm f1 x1 (by omega) (by omega) (by omega) (by omega), x1, i1, fun β => ?_⟩
  rw [v1, hf.ev, ev_low _ _ 0 (by omega), ev_low _ _ 1 (by omega)]
  cases E β <;> rfl
theorem MkS.supp (h : MkS w W k s u c d lb st kc calls F) (hk6 : k ≤ 6) (hu : u ≤ 900000) {f : Int} {E : (Nat → Bool) → Bool} (hf : Num st f E) :
    Calls Try.prog 25 #[.pointer (some ⟨d, 0, none⟩), .int .i64 f] W fun e W' => ∃ v S Lk, e = .returned v ∧ Hid (Keeps (fun _ => False) W W' ∧ ReadsI W' v S ∧ S.Pairwise (· < ·) ∧ (∀ z, z ∈ S ↔ DepE E z) ∧ Dfs st.L st.n [] f Lk ∧ S.length ≤ Lk.length ∧ S.length ≤ 1000000) := by
  have hn := h.n
  have hfI := isN_iff.1 hf.is
  refine (support_spec h.bd hk6 (by omega) (.inr hf.is) (by omega) (by omega)).mono ?_
  rintro e W' ⟨v, l, Lk, rfl, hr⟩
  obtain ⟨h1, h2, h3, h4, h5, h6⟩ := hr.out
  have hE : (fun β => ev st.L β f) = E := funext hf.ev
  refine ⟨v, suppL l, Lk, rfl, h1, h2, supp_rises l, fun z => ?_, h3, Nat.le_trans (supp_len l) h5, Nat.le_trans (supp_len l) h6⟩
  rw [supp_mem, h4, dfs_vars h.fine.wf.ok.good h3 hf.is z, hE]
theorem MkS.size1 (h : MkS w W k s u c d lb st kc calls F) (hk6 : k ≤ 6) (hu : u ≤ 900000) {f : Int} (hf : isN st.n f = true) :
    Calls Try.prog 26 #[.pointer (some ⟨d, 0, none⟩), .int .i64 f] W fun e W' => ∃ q : Nat, e = .returned (.int .i64 (q : Int)) ∧ Hid (Keeps (fun _ => False) W W' ∧ SizeN st.L st.n f q ∧ q ≤ st.n) := by
  have hn := h.n
  refine (qsize_spec h.bd (by omega) (by omega) (by omega) hf).mono ?_
  rintro e W' ⟨q, rfl, hr⟩
  refine ⟨q, rfl, hr.out.1, hr.out.2, ?_⟩
  obtain ⟨K, hd, rfl⟩ := hr.out.2
  exact dfs_len hd
end
section
variable {W : World} {d : Nat} {V B : Int} {st : St} {calls : Int} {Fp : Nat → Prop}
set_option maxRecDepth 100000
set_option maxHeartbeats 1600000
/-- What is no diagram. -/
theorem restrict_none (h : Bd W d V B st calls Fp) (hn : st.n ≤ 1000000000) {f : Int} (hf1 : f ≤ 9223372036854775807) (hi : isN st.n f = false) (v : Int) (so : Bool) :
    Calls Try.prog 24 #[.pointer (some ⟨d, 0, none⟩), .int .i64 f, .int .i64 v, .bool so] W fun e W' => e = .returned (.int .i64 0) ∧ Keeps (fun _ => False) W W' := by
  have hbx : ∀ w2, w2 = ((W.alloc (.cells #[.pointer (some ⟨d, 0, none⟩)] 25)).alloc (.cells #[.int .i64 v] 3)).alloc (.cells #[.bool so] 4) → Keeps (fun _ => False) W w2 ∧ w2.cell? ⟨W.heap.size, 0, none⟩ = some (.pointer (some ⟨d, 0, none⟩)) := by
    rintro w2 rfl
    have h1 := (MapKept.heap_alloc W (.cells #[.pointer (some ⟨d, 0, none⟩)] 25)).1
    have k2 : Keeps (fun _ => False) (W.alloc (.cells #[.pointer (some ⟨d, 0, none⟩)] 25)) (((W.alloc (.cells #[.pointer (some ⟨d, 0, none⟩)] 25)).alloc (.cells #[.int .i64 v] 3)).alloc (.cells #[.bool so] 4)) := ((Keeps.refl _ _).alloc _).alloc _
    refine ⟨((Keeps.refl _ _).alloc _).trans k2, ?_⟩
    rw [cell_of_heap ((k2.block _ (lt_of_heap h1) (fun x => x)).trans h1)]; rfl
  have HI : Hid (∀ W', Keeps (fun _ => False) W W' → Calls Try.prog 28 #[.pointer (some ⟨d, 0, none⟩), .int .i64 f] W' fun e w' => e = .returned (.bool false) ∧ W' = w') := fun W' hk => (bis_spec (h.quiet hk) hn f hf1).mono fun e w' hh => ⟨by rw [hh.1, hi], hh.2⟩
  have HBX := Lib.hid hbx
  clear h hbx
  go_enter Try.func24, Try.ntmps24
  go_upto_region 1 with fail
  obtain ⟨hk, e0⟩ := HBX.out _ rfl
  have HK := Lib.hid hk
  generalize ((W.alloc (.cells #[.pointer (some ⟨d, 0, none⟩)] 25)).alloc (.cells #[.int .i64 v] 3)).alloc (.cells #[.bool so] 4) = w3 at *
  clear HBX hk
  go_wp2_with fail
  refine (HI.out _ HK.out).mono ?_
  rintro e w' ⟨rfl, rfl⟩
  go_wp2_with fail
  go_ret
  exact ⟨rfl, HK.out⟩
theorem put_none1 (h : Bd W d V B st calls Fp) (hn : st.n ≤ 1000000000) {f : Int} (hf1 : f ≤ 9223372036854775807) (hi : isN st.n f = false) (v g : Int) :
    Calls Try.prog 30 #[.pointer (some ⟨d, 0, none⟩), .int .i64 f, .int .i64 v, .int .i64 g] W fun e W' => e = .returned (.int .i64 0) ∧ W = W' := by
  have HI : Hid (Calls Try.prog 28 #[.pointer (some ⟨d, 0, none⟩), .int .i64 f] W fun e w' => e = .returned (.bool false) ∧ W = w') := (bis_spec h hn f hf1).mono fun e w' hh => ⟨by rw [hh.1, hi], hh.2⟩
  clear h
  go_enter Try.func30, Try.ntmps30
  go_wp2_with fail
  refine HI.out.mono ?_
  rintro e w' ⟨rfl, rfl⟩
  go_wp2_with fail
  go_ret
  exact ⟨rfl, rfl⟩
theorem put_none2 (h : Bd W d V B st calls Fp) (hn : st.n ≤ 1000000000) {f g : Int} (hf1 : f ≤ 9223372036854775807) (hi : isN st.n f = true) (hg1 : g ≤ 9223372036854775807) (hgi : isN st.n g = false) (v : Int) :
    Calls Try.prog 30 #[.pointer (some ⟨d, 0, none⟩), .int .i64 f, .int .i64 v, .int .i64 g] W fun e W' => e = .returned (.int .i64 0) ∧ W = W' := by
  have HI : Hid (Calls Try.prog 28 #[.pointer (some ⟨d, 0, none⟩), .int .i64 f] W fun e w' => e = .returned (.bool true) ∧ W = w') := (bis_spec h hn f hf1).mono fun e w' hh => ⟨by rw [hh.1, hi], hh.2⟩
  have HG : Hid (Calls Try.prog 28 #[.pointer (some ⟨d, 0, none⟩), .int .i64 g] W fun e w' => e = .returned (.bool false) ∧ W = w') := (bis_spec h hn g hg1).mono fun e w' hh => ⟨by rw [hh.1, hgi], hh.2⟩
  clear h
  go_enter Try.func30, Try.ntmps30
  go_wp2_with fail
  refine HI.out.mono ?_
  rintro e w' ⟨rfl, rfl⟩
  go_wp2_with fail
  refine HG.out.mono ?_
  rintro e w' ⟨rfl, rfl⟩
  go_wp2_with fail
  go_ret
  exact ⟨rfl, rfl⟩
theorem each_none (h : Bd W d V B st calls Fp) (hn : st.n ≤ 1000000000) {f : Int} (hf1 : f ≤ 9223372036854775807) (hi : isN st.n f = false) (v b : Value) :
    Calls Try.prog 52 #[.pointer (some ⟨d, 0, none⟩), .int .i64 f, v, b] W fun e W' => e = .returned (.int .i64 0) ∧ W = W' := by
  have HI : Hid (Calls Try.prog 28 #[.pointer (some ⟨d, 0, none⟩), .int .i64 f] W fun e w' => e = .returned (.bool false) ∧ W = w') := (bis_spec h hn f hf1).mono fun e w' hh => ⟨by rw [hh.1, hi], hh.2⟩
  clear h
  go_enter Try.func52, Try.ntmps52
  go_wp2_with fail
  refine HI.out.mono ?_
  rintro e w' ⟨rfl, rfl⟩
  go_wp2_with fail
  go_ret
  exact ⟨rfl, rfl⟩
theorem some_none (h : Bd W d V B st calls Fp) (hn : st.n ≤ 1000000000) {f : Int} (hf1 : f ≤ 9223372036854775807) (hi : isN st.n f = false) (v : Value) :
    Calls Try.prog 21 #[.pointer (some ⟨d, 0, none⟩), .int .i64 f, v] W fun e W' => e = .returned (.int .i64 0) ∧ W = W' := by
  have HE : Hid (∀ b, Calls Try.prog 52 #[.pointer (some ⟨d, 0, none⟩), .int .i64 f, v, b] W fun e W' => e = .returned (.int .i64 0) ∧ W = W') := fun b => each_none h hn hf1 hi v b
  clear h
  go_enter Try.func21, Try.ntmps21
  go_wp2_with fail
  refine (HE.out _).mono ?_
  rintro e w' ⟨rfl, rfl⟩
  go_wp2_with fail
  go_ret
  exact ⟨rfl, rfl⟩
theorem qeach_none (h : Bd W d V B st calls Fp) (hn : st.n ≤ 1000000000) {f : Int} (hf1 : f ≤ 9223372036854775807) (hi : isN st.n f = false) (v : Value) :
    Calls Try.prog 23 #[.pointer (some ⟨d, 0, none⟩), .int .i64 f, v] W fun e W' => e = .returned (.int .i64 0) ∧ W = W' := by
  have HE : Hid (∀ b, Calls Try.prog 52 #[.pointer (some ⟨d, 0, none⟩), .int .i64 f, v, b] W fun e W' => e = .returned (.int .i64 0) ∧ W = W') := fun b => each_none h hn hf1 hi v b
  clear h
  go_enter Try.func23, Try.ntmps23
  go_wp2_with fail
  refine (HE.out _).mono ?_
  rintro e w' ⟨rfl, rfl⟩
  go_wp2_with fail
  go_ret
  exact ⟨rfl, rfl⟩
theorem none_get {f : Int} {n : Nat} {L : Nat → Nd} (hi : isN n f = false) : getN L n f = none := by
  unfold getN
  rw [if_neg (fun h => by
    have : isN n f = true := isN_iff.2 ⟨by omega, h.2⟩
    rw [hi] at this; cases this)]
theorem size_none {k : Nat} (h : Bd W d (k : Int) B st calls Fp) (hk6 : k ≤ 6) (hn : st.n ≤ 10000000) {f : Int} (hf0 : -9223372036854775808 ≤ f) (hf1 : f ≤ 9223372036854775807) (hi : isN st.n f = false) :
    Calls Try.prog 26 #[.pointer (some ⟨d, 0, none⟩), .int .i64 f] W fun e W' => e = .returned (.int .i64 0) ∧ Keeps (fun _ => False) W W' := by
  have hg := none_get (L := st.L) hi
  refine (qsize_any h (by omega) (by omega) hn (.inl hg) hf0 hf1).mono ?_
  rintro e W' ⟨q, rfl, hr⟩
  have h0 : SizeN st.L st.n f 0 := ⟨[], .stop [] f (.inr hg), rfl⟩
  have := hr.out.2.one h0
  subst this
  exact ⟨rfl, hr.out.1⟩
theorem supp_none {k : Nat} (h : Bd W d (k : Int) B st calls Fp) (hk6 : k ≤ 6) (hn : st.n ≤ 10000000) {f : Int} (hf0 : -9223372036854775808 ≤ f) (hf1 : f ≤ 9223372036854775807) (hi : isN st.n f = false) :
    Calls Try.prog 25 #[.pointer (some ⟨d, 0, none⟩), .int .i64 f] W fun e W' => ∃ ao cap, e = .returned (.slice ao 0 cap) ∧ Keeps (fun _ => False) W W' := by
  have hg := none_get (L := st.L) hi
  refine (support_spec h hk6 hn (.inl hg) hf0 hf1).mono ?_
  rintro e W' ⟨v, l, Lk, rfl, hr⟩
  obtain ⟨h1, h2, h3, h4, h5, h6⟩ := hr.out
  have hL : Lk = [] := h3.one _ (.stop [] f (.inr hg))
  rw [hL] at h5
  have hs : (suppL l).length = 0 := by have := supp_len l; simp only [List.length_nil] at h5; omega
  obtain ⟨ao, cap, hv, _⟩ := h2
  rw [hs] at hv
  exact ⟨ao, cap, by rw [hv], h1⟩
end
end Go.Proofs.Ytfakjhcpaiaekaa
