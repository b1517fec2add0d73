/-
  What between leaves, and what it finds kept on its way.
-/
import Derived.Test.YtloidoekmicloaaMU
import Derived.Test.YtloidoekmicloaaSatRepeat
set_option linter.unusedVariables false
set_option linter.unusedSimpArgs false
set_option linter.unnecessarySimpa false
namespace Go.Proofs.Ytloidoekmicloaa
open Go.ChangeShapes Go.WideShapes Go.ChangeAt Go.RowKit Go.Deep NodePlain
/-- A diagram hangs on no variable that what it says doesn't hang on. -/
theorem var_ge {k : Nat} {st : St} (g : NodePlain.Good (k : Int) st.L st.n) {x : Int} {S : (Nat → Bool) → Bool} (h : Num st x S) {q : Nat} (hq : q ≤ k) (hi : ∀ w, w < q → Ind S w) : (q : Int) ≤ varN (k : Int) st.L st.n x := by
  apply Classical.byContradiction
  intro hn
  obtain ⟨u, hu⟩ := Int.eq_ofNat_of_zero_le (var_pos (V := (k : Int)) (by omega) g x)
  have huq : u < q := by omega
  have hio := hi u huq
  have key : ∀ so, Num st (halfN st.L st.n x (u : Int) so) S := fun so => by
    obtain ⟨h1, h2, h3⟩ := half_ok g h.is (v := (u : Int)) (by omega) (by omega) (by omega) so
    refine ⟨h1, fun β => ?_⟩
    have e1 := ev_above g (v := (u : Int)) (so := so) h1 h2 β
    have e2 := h3 (putB β u so) (by rw [Int.toNat_natCast]; exact putB_eq β u so)
    rw [← e1, ← e2, h.ev, hio]
  have he := (key false).eq (key true) g (fun _ => rfl)
  have hx2 : 2 ≤ x := by
    rcases Int.lt_or_le x 2 with h2 | h2
    · have := var_low (V := (k : Int)) (L := st.L) (n := st.n) h2; omega
    · exact h2
  have hxn := (isN_iff.1 h.is).2
  have hm : (x - 2).toNat < st.n := by omega
  obtain ⟨_, _, _, _, _, _, _, _, hne⟩ := g.node _ hm
  have hv : varN (k : Int) st.L st.n x = (st.L (x - 2).toNat).1 := by unfold varN; rw [if_pos ⟨hx2, hxn⟩]
  have hev : (st.L (x - 2).toNat).1 = (u : Int) := by rw [← hv]; exact hu
  unfold halfN getN at he
  rw [if_pos ⟨hx2, hxn⟩] at he
  simp only [hev, if_true] at he
  exact hne (by simpa using he)
theorem var_dep {k : Nat} {st : St} (g : NodePlain.Good (k : Int) st.L st.n) {x : Int} {S : (Nat → Bool) → Bool} (h : Num st x S) {v : Nat} (hv : (v : Int) < varN (k : Int) st.L st.n x) : Ind S v := fun β so => by
  rw [← h.ev, ← h.ev]
  exact ev_above g h.is hv β
theorem late_of {k : Nat} {st : St} (g : NodePlain.Good (k : Int) st.L st.n) {x : Int} {S : (Nat → Bool) → Bool} (h : Num st x S) {q : Nat} (hq : q ≤ k) (hi : ∀ w, w < q → Ind S w) : Late (k : Int) st (k - q) x := by
  have := var_ge g h hq hi
  unfold Late
  omega
/-- A block that is no maker's. -/
def Blk (W : World) (F : Nat → Prop) (b : Nat) (o : Obj) : Prop := W.heap[b]? = some o ∧ ¬ F b
theorem Blk.mv {W W' : World} {F F' : Nat → Prop} {b : Nat} {o : Obj} (h : Blk W F b o) (m : Mv W W' F F') : Blk W' F' b o :=
  ⟨(m.keeps.block b (lt_of_heap h.1) h.2).trans h.1, fun hf => (m.fp b hf).elim h.2 (fun h2 => by have := lt_of_heap h.1; omega)⟩
theorem Blk.quiet {W W' : World} {F : Nat → Prop} {b : Nat} {o : Obj} (h : Blk W F b o) (hk : Keeps (fun _ => False) W W') : Blk W' F b o := h.mv (Mv.quiet hk)
/-- Cubes that are no maker's. -/
def Cb (z : Nat) (W : World) (F : Nat → Prop) (k : Nat) (v : Value) (L : List (List Int)) (bs : List Nat) : Prop := CubesAt z W k v L bs ∧ ∀ x, cubFp v bs x → ¬ F x
theorem Cb.mv {z : Nat} {W W' : World} {F F' : Nat → Prop} {k : Nat} {v : Value} {L : List (List Int)} {bs : List Nat} (h : Cb z W F k v L bs) (m : Mv W W' F F') : Cb z W' F' k v L bs :=
  ⟨h.1.keeps m.keeps h.2, fun x hx hf => (m.fp x hf).elim (h.2 x hx) (fun h2 => by have := h.1.lt x hx; omega)⟩
theorem Cb.quiet {z : Nat} {W W' : World} {F : Nat → Prop} {k : Nat} {v : Value} {L : List (List Int)} {bs : List Nat} (h : Cb z W F k v L bs) (hk : Keeps (fun _ => False) W W') : Cb z W' F k v L bs := h.mv (Mv.quiet hk)
/-- What between leaves. -/
def BetTo (z : Nat) (W : World) (k d : Nat) (B : Int) (st : St) (kc : Nat) (F : Nat → Prop) (n c : Nat) (f : (Nat → Bool) → Bool) (L : List (List Int)) (e : Ending) (W' : World) : Prop :=
  ∃ ao cap r bs st' kc' calls' F', e = .returned (.agg #[.slice ao L.length cap, .int .i64 r]) ∧ Hid (DgTo z W k d B st kc F n c st' kc' calls' F' W' ∧ Num st' r f ∧ Cb W.heap.size W' F' k (.slice ao L.length cap) L bs)
end Go.Proofs.Ytloidoekmicloaa
/-
  between: the walk, of the ways that end at once.
-/
set_option linter.unusedVariables false
set_option linter.unusedSimpArgs false
set_option linter.unnecessarySimpa false
namespace Go.Proofs.Ytloidoekmicloaa
open Go.ChangeShapes Go.WideShapes Go.ChangeAt Go.RowKit Go.Deep NodePlain
/-- What between does, of what is so. -/
def BetIs (k d : Nat) (B : Int) (low high : (Nat → Bool) → Bool) (L : List (List Int)) (f : (Nat → Bool) → Bool) (n c : Nat) : Prop :=
  ∀ (z : Nat) (W : World) (st : St) (kc : Nat) (calls : Int) (F : Nat → Prop) (x y : Int), Dg z W k d B st kc calls F → z ≤ W.heap.size → (∀ β, low β = true → high β = true) → Num st x low → Num st y high → kc + c ≤ 80000 → ((st.n + n + 2 * 2 ^ k : Nat) : Int) < B →
    Calls Try.prog 37 #[.pointer (some ⟨d, 0, none⟩), .int .i64 x, .int .i64 y] W (BetTo z W k d B st kc F n c f L)
section
variable {k d : Nat} {B : Int} {low high : (Nat → Bool) → Bool}
set_option maxRecDepth 100000
set_option maxHeartbeats 3200000
theorem bet_zero (h0 : ∀ β, low β = false) : BetIs k d B low high [] (fun _ => false) 0 0 := by
  intro z W st kc calls F x y h hz _ hx hy hkc room
  have e : x = 0 := hx.eq (num0 st) h.good h0
  subst e
  have hk2 : Keeps (fun _ => False) W (W.alloc (.cells #[.slice none 0 0, .int .i64 0] 70)) := (Keeps.refl _ _).alloc _
  have HP : Hid (DgTo z W k d B st kc F 0 0 st kc calls F (W.alloc (.cells #[.slice none 0 0, .int .i64 0] 70)) ∧ Num st 0 (fun _ => false) ∧ Cb W.heap.size (W.alloc (.cells #[.slice none 0 0, .int .i64 0] 70)) F k (.slice none 0 0) [] []) :=
    ⟨(DgTo.refl h).quiet hk2, num0 st, CubesAt.nil _ _ _, fun x hx => by rcases hx with hx | hx; exact absurd hx (by simp [Value.ownBlock]); simp at hx⟩
  have hal := (MapKept.heap_alloc W (.cells #[.slice none 0 0, .int .i64 0] 70)).1
  have z0 := cell_of_heap hal 0
  have z1 := cell_of_heap hal 1
  simp only [List.getElem?_toArray, List.getElem?_cons_zero, List.getElem?_cons_succ] at z0 z1
  clear h hx hy room hk2
  go_enter Try.func37, Try.ntmps37
  go_wp2_with fail
  refine bodyPost_ret (v := .agg #[.slice none 0 0, .int .i64 0]) (by simp [results, Try.results37, go_sem, *]) rfl ?_
  exact ⟨none, 0, 0, [], st, kc, calls, F, rfl, HP⟩
theorem bet_one {β0 : Nat → Bool} (h0 : low β0 = true) (h1 : ∀ β, high β = true) (hk6 : k ≤ 6) : BetIs k d B low high [List.replicate k (-1)] (fun _ => true) 0 0 := by
  intro z W st kc calls F x y h hz _ hx hy hkc room
  have e : y = 1 := hy.eq (num1 st) h.good h1
  subst e
  have hx0 : ¬ x = 0 := fun e => by
    subst e
    have := hx.ev β0
    rw [ev0, h0] at this
    cases this
  have hx0b : (x == 0) = false := by simp [hx0]
  have hns := h.ns (by have : 0 ≤ 2 ^ k := Nat.zero_le _; omega)
  have HSP : Hid (∀ W', Keeps (fun _ => False) W W' → Calls Try.prog 38 #[.pointer (some ⟨d, 0, none⟩)] W' fun e W2 => e = .returned (.bool false) ∧ W' = W2) := fun W' hk => by
    have := bspent_spec (h.bd.quiet hk)
    rw [hns] at this
    exact this
  have HVS : Hid (∀ W', Keeps (fun _ => False) W W' → Calls Try.prog 40 #[.pointer (some ⟨d, 0, none⟩)] W' fun e W2 => e = .returned (.int .i64 k) ∧ W' = W2) := fun W' hk => bvars_spec (h.bd.quiet hk)
  have hk2 : Keeps (fun _ => False) W (W.alloc (.cells #[.slice none 0 0, .int .i64 0] 70)) := (Keeps.refl _ _).alloc _
  have HK2 := Lib.hid hk2
  have hal := (MapKept.heap_alloc W (.cells #[.slice none 0 0, .int .i64 0] 70)).1
  have HAL := Lib.hid hal
  have HDG := Lib.hid h
  have HFL := Lib.hid h.bd.lt
  clear h hx hy room hns
  go_enter Try.func37, Try.ntmps37
  go_upto_region 1 with fail
  generalize (W.alloc (.cells #[.slice none 0 0, .int .i64 0] 70)) = w1 at *
  go_wp2_with fail
  refine (HSP.out _ HK2.out).mono ?_
  rintro e w' ⟨rfl, rfl⟩
  clear HSP
  have hk3 : Keeps (fun _ => False) w1 (w1.alloc (.cells #[.int .i64 (-1)] 3)) := (Keeps.refl _ _).alloc _
  have ha3 := (MapKept.heap_alloc w1 (.cells #[.int .i64 (-1)] 3)).1
  have HV := Lib.hid (HVS.out _ (HK2.out.trans hk3))
  have HR := Lib.hid (repeat_spec (W := w1.alloc (.cells #[.int .i64 (-1)] 3)) (g := w1.heap.size) (by rw [cell_of_heap ha3]; rfl) hk6)
  have HK3 := Lib.hid (HK2.out.trans hk3)
  have hal3 := (hk3.block _ (lt_of_heap hal) (fun x => x)).trans hal
  have HAL3 := Lib.hid hal3
  clear hk3 ha3 HVS hal hal3 HAL hk2
  go_wp2_with fail
  refine HV.out.mono ?_
  rintro e w' ⟨rfl, rfl⟩
  clear HV
  go_wp2_with fail
  refine HR.out.mono ?_
  rintro e w4 ⟨b, rfl, hb⟩
  obtain ⟨hb1, hb2, hb3⟩ := hb.out
  have hal4 := (hb2.block _ (lt_of_heap HAL3.out) (fun x => x)).trans HAL3.out
  have hk4 : Keeps (fun _ => False) w4 (w4.alloc (.cells #[.slice (some ⟨b, 0, none⟩) k k] 27)) := (Keeps.refl _ _).alloc _
  have ha4 := (MapKept.heap_alloc w4 (.cells #[.slice (some ⟨b, 0, none⟩) k k] 27)).1
  have hal5 := (hk4.block _ (lt_of_heap hal4) (fun x => x)).trans hal4
  have c0 := cell_of_heap hal5 0
  have c1 := cell_of_heap hal5 1
  have f0 := free_of_heap hal5 0
  have f1 := free_of_heap hal5 1
  have l5 := lt_of_heap hal5
  simp only [List.getElem?_toArray, List.getElem?_cons_zero, List.getElem?_cons_succ] at c0 c1
  have hW4 : W.heap.size ≤ w4.heap.size := Nat.le_trans HK3.out.size hb2.size
  have hbW : W.heap.size ≤ b := Nat.le_trans HK3.out.size hb1
  have hbl := lt_of_heap hb3
  have hrow : irow (fun _ => -1) k = crow (List.replicate k (-1)) := by
    apply Array.ext_getElem?
    intro j
    rcases Nat.lt_or_ge j k with hj | hj
    · rw [irow_get _ _ _ hj]
      exact (crow_get (by rw [List.getElem?_replicate, if_pos hj])).symm
    · rw [Array.getElem?_eq_none (by rw [irow_size]; exact hj), Array.getElem?_eq_none (by unfold crow; simpa using hj)]
  obtain ⟨w5, hw5⟩ : ∃ w5, w4.alloc (.cells #[.slice (some ⟨b, 0, none⟩) k k] 27) = w5 := ⟨_, rfl⟩
  have HF : Hid (∀ w6, Keeps (fun x => x = W.heap.size) w5 w6 → DgTo z W k d B st kc F 0 0 st kc calls F w6 ∧ Num st 1 (fun _ => true) ∧ Cb W.heap.size w6 F k (.slice (some ⟨w4.heap.size, 0, none⟩) 1 1) [List.replicate k (-1)] [b]) := fun w6 hk => by
    rw [← hw5] at hk
    have k06 : Keeps (fun _ => False) W w6 := ((HK3.out.trans hb2).trans hk4).trans_new hk (fun i hi e => by omega)
    have hcub : CubesAt W.heap.size (w4.alloc (.cells #[.slice (some ⟨b, 0, none⟩) k k] 27)) k (.slice (some ⟨w4.heap.size, 0, none⟩) 1 1) [List.replicate k (-1)] [b] := by
      refine ⟨⟨rfl, .inr ⟨w4.heap.size, 1, #[.slice (some ⟨b, 0, none⟩) k k], rfl, hW4, ha4, Nat.le_refl _, by unfold maxLen; omega, rfl, rfl⟩⟩, rfl, fun i g c hg hc => ?_, by simp, fun g hg => ?_, fun c hc => ?_⟩
      · cases i with
        | zero =>
          simp only [List.getElem?_cons_zero, Option.some.injEq] at hg hc
          subst hg hc
          have h3 := (hk4.block b hbl (fun x => x)).trans hb3
          rw [hrow] at h3
          exact h3
        | succ i => simp at hg
      · obtain rfl : g = b := by simpa using hg
        exact hbW
      · obtain rfl : c = List.replicate k (-1) := by simpa using hc
        exact List.length_replicate
    have hfp : ∀ x, cubFp (.slice (some ⟨w4.heap.size, 0, none⟩) 1 1) [b] x → W.heap.size + 1 ≤ x := by
      have hb1' : W.heap.size + 1 ≤ b := Nat.le_trans (lt_of_heap HAL3.out) hb1
      rintro x (hx | hx)
      · simp only [Value.ownBlock, Option.some.injEq] at hx
        have := lt_of_heap hal4
        omega
      · obtain rfl : x = b := by simpa using hx
        exact hb1'
    refine ⟨(DgTo.refl HDG.out).quiet k06, num1 st, hcub.keeps hk (fun x hx e => by have := hfp x hx; omega), fun x hx hF => ?_⟩
    have h1 := hfp x hx
    have h2 := HFL.out x hF
    omega
  rw [hw5] at c0 c1 f0 f1 l5 hal5
  have H5 := Lib.hid hal5
  clear hb hb1 hb2 hb3 hal4 hk4 ha4 hal5 HR HK3 HAL3 HDG HFL HK2 hrow hbl
  go_wp2_with fail
  have HX := HF.out ((w5.setCell ⟨W.heap.size, 0, none⟩ (.slice (some ⟨w4.heap.size, 0, none⟩) 1 1)).setCell ⟨W.heap.size, 1, none⟩ (.int .i64 1)) ((Keeps.setCell (S := fun x => x = W.heap.size) (Keeps.refl _ w5) (p := ⟨W.heap.size, 0, none⟩) (fun _ => rfl) _).trans (Keeps.setCell (S := fun x => x = W.heap.size) (Keeps.refl _ _) (p := ⟨W.heap.size, 1, none⟩) (fun _ => rfl) _))
  have hz6 : ((w5.setCell ⟨W.heap.size, 0, none⟩ (.slice (some ⟨w4.heap.size, 0, none⟩) 1 1)).setCell ⟨W.heap.size, 1, none⟩ (.int .i64 1)).heap[W.heap.size]? = some (.cells #[.slice (some ⟨w4.heap.size, 0, none⟩) 1 1, .int .i64 1] 70 (0, 0)) := by
    rw [heap_set (heap_set H5.out 0 _) 1 _]; rfl
  generalize ((w5.setCell ⟨W.heap.size, 0, none⟩ (.slice (some ⟨w4.heap.size, 0, none⟩) 1 1)).setCell ⟨W.heap.size, 1, none⟩ (.int .i64 1)) = w6 at HX hz6 ⊢
  have z0 := cell_of_heap hz6 0
  have z1 := cell_of_heap hz6 1
  simp only [List.getElem?_toArray, List.getElem?_cons_zero, List.getElem?_cons_succ] at z0 z1
  clear HF c0 c1 f0 f1 l5 H5 hz6
  refine bodyPost_ret (v := .agg #[.slice (some ⟨w4.heap.size, 0, none⟩) 1 1, .int .i64 1]) (by simp [results, Try.results37, go_sem, *]) rfl ?_
  exact ⟨_, _, _, [b], st, kc, calls, F, rfl, HX⟩
end
end Go.Proofs.Ytloidoekmicloaa
