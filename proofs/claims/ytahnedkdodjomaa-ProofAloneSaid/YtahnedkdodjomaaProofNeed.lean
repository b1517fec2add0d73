/-
  What a step needs, and what that needs, is marked.
-/
import Derived.Test.YtahnedkdodjomaaProofAll
set_option linter.unusedVariables false
set_option linter.unusedSimpArgs false
set_option linter.unnecessarySimpa false
namespace Go.Proofs.Ytahnedkdodjomaa
open Go.ChangeShapes Go.WideShapes Go.ChangeAt Go.RowKit Go.Deep SetPlain
/-- One step stands on another. -/
def Dep (P K : Nat) (rs : List Rl) (l : List Sp) (i j : Nat) : Prop := ∃ s f, l[i]? = some s ∧ f ∈ (needsL P K rs s).1 ∧ atF l f.1 f.2 = some j
/-- What is marked behind a look at a step. -/
structure NeedRel (D : Nat → Nat → Prop) (i : Nat) (V V' : Nat → Bool) : Prop where
  sub : ∀ j, V j = true → V' j = true
  me : V' i = true
  why : ∀ j, V' j = true → V j = false → j = i ∨ ∃ j', V' j' = true ∧ D j' j
  closed : ∀ j, V' j = true → V j = false → ∀ k, D j k → V' k = true
structure Marks (D : Nat → Nat → Prop) (i : Nat) (done : Nat → Prop) (V V' : Nat → Bool) : Prop where
  sub : ∀ j, V j = true → V' j = true
  me : V' i = true
  why : ∀ j, V' j = true → V j = false → j = i ∨ ∃ j', V' j' = true ∧ D j' j
  closed : ∀ j, V' j = true → V j = false → j ≠ i → ∀ k, D j k → V' k = true
  deps : ∀ k, done k → V' k = true
theorem NeedRel.same {D : Nat → Nat → Prop} {i : Nat} {V : Nat → Bool} (h : V i = true) : NeedRel D i V V :=
  ⟨fun _ h => h, h, fun j h1 h2 => (by rw [h1] at h2; cases h2), fun j h1 h2 => (by rw [h1] at h2; cases h2)⟩
theorem Marks.done {D : Nat → Nat → Prop} {i : Nat} {V V' : Nat → Bool} {dn : Nat → Prop} (h : Marks D i dn V V') (hd : ∀ k, D i k → dn k) : NeedRel D i V V' :=
  ⟨h.sub, h.me, h.why, fun j h1 h2 k hk => by
    by_cases e : j = i
    · subst e; exact h.deps k (hd k hk)
    · exact h.closed j h1 h2 e k hk⟩
theorem Marks.step {D : Nat → Nat → Prop} {i k0 : Nat} {V V1 V2 : Nat → Bool} {dn dn' : Nat → Prop} (h : Marks D i dn V V1) (hd : D i k0) (n : NeedRel D k0 V1 V2) (hdn : ∀ k, dn' k → dn k ∨ k = k0) : Marks D i dn' V V2 := by
  refine ⟨fun j hj => n.sub j (h.sub j hj), n.sub _ h.me, fun j h1 h2 => ?_, fun j h1 h2 h3 k hk => ?_, fun k hk => (hdn k hk).elim (fun hk => n.sub _ (h.deps k hk)) (fun e => e ▸ n.me)⟩
  · cases hv : V1 j with
    | true => exact (h.why j hv h2).imp id (fun ⟨j', a, b⟩ => ⟨j', n.sub _ a, b⟩)
    | false =>
      rcases n.why j h1 hv with rfl | e
      · exact .inr ⟨i, n.sub _ h.me, hd⟩
      · exact .inr e
  · cases hv : V1 j with
    | true => exact n.sub _ (h.closed j hv h2 h3 k hk)
    | false => exact n.closed j h1 hv k hk
def markV (V : Nat → Bool) (i : Nat) : Nat → Bool := fun j => decide (j = i) || V j
theorem Marks.start {D : Nat → Nat → Prop} {i : Nat} {V : Nat → Bool} : Marks D i (fun _ => False) V (markV V i) :=
  ⟨fun j h => by unfold markV; rw [h, Bool.or_true], by unfold markV; simp, fun j h1 h2 => by unfold markV at h1; rw [h2] at h1; simp at h1; exact .inl h1, fun j h1 h2 h3 => by unfold markV at h1; rw [h2] at h1; simp at h1; exact absurd h1 h3, fun _ h => h.elim⟩
theorem atF_append : ∀ {l m : List Sp} {a b : Int} {j : Nat}, atF l a b = some j → atF (l ++ m) a b = some j
  | [], _, _, _, _, h => by cases h
  | x :: l, m, a, b, j, h => by
    show atF (x :: (l ++ m)) a b = some j
    unfold atF at h ⊢
    split at h
    · rw [if_pos (by assumption)]; exact h
    · rw [if_neg (by assumption)]
      cases hl : atF l a b with
      | none => rw [hl] at h; cases h
      | some y => rw [hl] at h; rw [atF_append hl]; exact h
section
variable {z : Nat} {w W W' : World} {kb : Nat} {P K : Nat} {ao : Option Addr} {n cap mb : Nat} {vs vs' : Value} {l l' l1 : List Sp} {rs : List Rl}
theorem Grow.at_ (h : Grow P K rs [] l) : ∀ (i : Nat) (s : Sp), l[i]? = some s → mayB P K rs (l.take i) s = true := by
  generalize h0 : ([] : List Sp) = l0 at h
  induction h with
  | refl => subst h0; intro i s h; simp at h
  | step s hg hm ih =>
    subst h0
    rename_i l1
    intro i s' hi
    rcases Nat.lt_or_ge i l1.length with h | h
    · rw [List.getElem?_append_left h] at hi
      rw [List.take_append_of_le_length (by omega)]
      exact ih i s' hi
    · rw [List.getElem?_append_right h] at hi
      have hz : i = l1.length := by
        rcases Nat.lt_or_ge (i - l1.length) 1 with h1 | h1
        · omega
        · rw [List.getElem?_eq_none (by simpa using h1)] at hi; cases hi
      subst hz
      simp at hi
      subst hi
      rw [List.take_left']
      · exact hm
      · rfl
/-- What a step stands on lies ahead of it. -/
theorem dep_at (hP : P ≤ 64) (hK : K ≤ 64) (h : Grow P K rs [] l) {i : Nat} {s : Sp} (hs : l[i]? = some s) : ∀ f, f ∈ (needsL P K rs s).1 → I64 f.1 ∧ I64 f.2 ∧ ∃ j, j < i ∧ atF l f.1 f.2 = some j := by
  intro f hf
  have hm := h.at_ i s hs
  unfold mayB at hm
  rw [Bool.and_eq_true, Bool.and_eq_true] at hm
  obtain ⟨_, _, hI⟩ := needs_ok (p := P) (k := K) (by omega) (by omega) hm.1.1
  refine ⟨(hI f hf).1, (hI f hf).2, ?_⟩
  have h1 := List.all_eq_true.1 hm.1.2 f hf
  cases hj : atF (l.take i) f.1 f.2 with
  | none => rw [hj] at h1; cases h1
  | some j =>
    have hlt := atF_lt hj
    rw [List.length_take] at hlt
    have := atF_append (m := l.drop i) hj
    rw [List.take_append_drop] at this
    exact ⟨j, by omega, this⟩
def fnV (nbx kbx fbx : Nat) : Value := .func (.func 24) #[] #[.pointer (some ⟨nbx, 0, none⟩), .pointer (some ⟨kbx, 0, none⟩), .pointer (some ⟨fbx, 0, none⟩)]
/-- What the closure captured. -/
structure NdB (z : Nat) (w W0 : World) (kb P K : Nat) (ao : Option Addr) (n cap mb : Nat) (vs : Value) (l : List Sp) (rs : List Rl) (nbx kbx fbx nb : Nat) : Prop where
  kn : KnE z w W0 kb P K ao n cap mb vs l rs
  c1 : W0.cell? ⟨nbx, 0, none⟩ = some (.slice (some ⟨nb, 0, none⟩) l.length l.length)
  c2 : W0.cell? ⟨kbx, 0, none⟩ = some (.pointer (some ⟨kb, 0, none⟩))
  c3 : W0.cell? ⟨fbx, 0, none⟩ = some (fnV nbx kbx fbx)
  zn : z ≤ nb
  nf : ¬ knFp kb mb vs nb
  n1 : nbx ≠ nb
  n2 : kbx ≠ nb
  n3 : fbx ≠ nb
structure NdS (W0 : World) (nb L : Nat) (V : Nat → Bool) (W : World) : Prop where
  keeps : Keeps (fun x => x = nb) W0 W
  row : W.heap[nb]? = some (.cells (boolRow V L) 4 (0, 0))
variable {W0 : World} {nbx kbx fbx nb : Nat} {V V' : Nat → Bool} {L : Nat}
theorem NdS.quiet (h : NdS W0 nb L V W) (hk : Keeps (fun _ => False) W W') : NdS W0 nb L V W' := ⟨h.keeps.trans (hk.mono (fun _ _ x => x.elim)), (hk.block _ (lt_of_heap h.row) (fun x => x)).trans h.row⟩
theorem NdS.mark (h : NdS W0 nb L V W) {i : Nat} (hi : i < L) : NdS W0 nb L (markV V i) (W.setCell ⟨nb, i, none⟩ (.bool true)) := by
  refine ⟨h.keeps.setCell (fun _ => rfl) _, ?_⟩
  rw [heap_set h.row]
  unfold boolRow
  rw [fnRow_set _ _ _ _ hi]
  refine congrArg some ?_
  refine congrArg (fun c => Obj.cells c 4 (0, 0)) (fnRow_congr fun j _ => ?_)
  unfold markV
  by_cases e : j = i <;> simp [e]
theorem NdS.cell (h : NdS W0 nb L V W) {i : Nat} (hi : i < L) : W.cell? ⟨nb, i, none⟩ = some (.bool (V i)) := by
  rw [cell_of_heap h.row]
  exact fnRow_get _ _ _ hi
theorem NdS.kn (h : NdS W0 nb L V W) (hB : NdB z w W0 kb P K ao n cap mb vs l rs nbx kbx fbx nb) : KnE z w W kb P K ao n cap mb vs l rs := hB.kn.box hB.zn hB.nf h.keeps
theorem NdS.cells (h : NdS W0 nb L V W) (hB : NdB z w W0 kb P K ao n cap mb vs l rs nbx kbx fbx nb) : W.cell? ⟨nbx, 0, none⟩ = some (.slice (some ⟨nb, 0, none⟩) l.length l.length) ∧ W.cell? ⟨kbx, 0, none⟩ = some (.pointer (some ⟨kb, 0, none⟩)) ∧ W.cell? ⟨fbx, 0, none⟩ = some (fnV nbx kbx fbx) :=
  ⟨(h.keeps.cell (p := ⟨nbx, 0, none⟩) (lt_of_cell hB.c1) hB.n1).trans hB.c1, (h.keeps.cell (p := ⟨kbx, 0, none⟩) (lt_of_cell hB.c2) hB.n2).trans hB.c2, (h.keeps.cell (p := ⟨fbx, 0, none⟩) (lt_of_cell hB.c3) hB.n3).trans hB.c3⟩
/-- Facts are no marks. -/
theorem NdS.ne (h : NdS W0 nb L V W) {bb : Nat} {fl : List (Int × Int)} (hf : FcRow W (some ⟨bb, 0, none⟩) fl) (h0 : 0 < fl.length) : bb ≠ nb := by
  rintro rfl
  obtain ⟨b, he, _, hc⟩ := hf h0
  cases he
  have h1 := (hc 0 fl[0] (List.getElem?_eq_getElem h0)).1
  rw [cell_of_heap h.row] at h1
  rcases Nat.lt_or_ge (0 + 0 * 2) L with h2 | h2
  · rw [show (boolRow V L)[0 + 0 * 2]? = _ from fnRow_get _ _ _ h2] at h1; cases h1
  · rw [Array.getElem?_eq_none (by unfold boolRow; rw [fnRow_size]; exact h2)] at h1; cases h1
theorem FcRow.keepsN {ao : Option Addr} {fl : List (Int × Int)} (h : FcRow W ao fl) (hk : Keeps (fun x => x = nb) W W') (hne : ∀ bb, ao = some ⟨bb, 0, none⟩ → 0 < fl.length → bb ≠ nb) : FcRow W' ao fl := fun h0 => by
  obtain ⟨b, rfl, hlt, hc⟩ := h h0
  have e : ∀ j, W'.cell? ⟨b, j, none⟩ = W.cell? ⟨b, j, none⟩ := fun j => hk.cell (p := ⟨b, j, none⟩) hlt (hne b rfl h0)
  exact ⟨b, rfl, Nat.lt_of_lt_of_le hlt hk.size, fun i f hf => ⟨(e _).trans (hc i f hf).1, (e _).trans (hc i f hf).2⟩⟩
/-- The cells of a step in its row. -/
theorem KnMem.step_cells {p k : Int} (h : KnMem W kb p k ao n cap mb vs l) {i : Nat} {s : Sp} (hs : l[i]? = some s) : ∃ g o sc, vs = .slice (some ⟨g, o, none⟩) l.length sc ∧ l.length ≤ sc ∧
    W.cell? ⟨g, o + i * 4, none⟩ = some (.int .i64 s.rule) ∧ W.cell? ⟨g, o + i * 4 + 1, none⟩ = some (.int .i64 s.role) ∧ W.cell? ⟨g, o + i * 4 + 2, none⟩ = some (.int .i64 s.who) ∧ W.cell? ⟨g, o + i * 4 + 3, none⟩ = some (.int .i64 s.mid) := by
  have hi : i < l.length := by
    rcases Nat.lt_or_ge i l.length with h | h
    · exact h
    · rw [List.getElem?_eq_none h] at hs; cases hs
  obtain ⟨so, sc, hv, hle, _, _, hc⟩ := h.row.form
  obtain ⟨g, o, rfl, _, hcc⟩ := hc (by omega)
  have hg := fun j u hu => spCells_get l i s hs j u hu
  exact ⟨g, o, sc, hv, hle, hcc _ _ (hg 0 _ rfl), hcc _ _ (hg 1 _ rfl), hcc _ _ (hg 2 _ rfl), hcc _ _ (hg 3 _ rfl)⟩
theorem KnMem.look {p k : Int} (h : KnMem W kb p k ao n cap mb vs l) {a b : Int} (ha : I64 a) (hb : I64 b) {j : Nat} (hj : atF l a b = some j) :
    (Instr.lookup 53 (.map (some mb)) (.agg #[.int .i64 a, .int .i64 b]) false).run Try.prog W = .ok (.int .i64 j) W := by
  obtain ⟨D, hown, hD⟩ := h.map
  obtain ⟨_, h2⟩ := hD a b ha hb
  obtain ⟨c, hrun, hat, _⟩ := hown.lookup_int (t := 53) (e := 3) (q := .i64) fact_keyed Try.underlying53 Try.underlying3 (by kernel_rfl) (fact_key ha hb)
  rw [h2] at hat
  simp only [DataW.lit.injEq, Lit.int.injEq, true_and] at hat
  unfold atN at hat
  rw [hj] at hat
  rw [hrun, ← hat]
  rfl
def NeedPost (P K : Nat) (rs : List Rl) (l : List Sp) (nb L i : Nat) (V : Nat → Bool) (W : World) (e : Ending) (W' : World) : Prop :=
  e = .returned (.tuple #[]) ∧ ∃ V', Hid (Keeps (fun x => x = nb) W W' ∧ W'.heap[nb]? = some (.cells (boolRow V' L) 4 (0, 0))) ∧ Hid (NeedRel (Dep P K rs l) i V V')
set_option maxRecDepth 100000
set_option maxHeartbeats 3200000
theorem need_spec (hB : NdB z w W0 kb P K ao n cap mb vs l rs nbx kbx fbx nb) (i : Nat) : i < l.length → ∀ (V : Nat → Bool) (W : World), NdS W0 nb l.length V W →
    Calls Try.prog 24 #[.int .i64 i, .pointer (some ⟨nbx, 0, none⟩), .pointer (some ⟨kbx, 0, none⟩), .pointer (some ⟨fbx, 0, none⟩)] W (NeedPost P K rs l nb l.length i V W) := by
  induction i using Nat.strongRecOn with
  | _ i ih =>
  intro hi V W hS
  have IH := Lib.hid ih
  clear ih
  have HB := Lib.hid hB
  have HS := Lib.hid hS
  have hlen := hB.kn.good.big hB.kn.hP hB.kn.hK
  obtain ⟨b1, b2, b3⟩ := hS.cells hB
  have hV := hS.cell hi
  have hfr := free_of_heap hS.row i
  have lnb := lt_of_heap hS.row
  have hiI : (i : Int) < (l.length : Int) := by omega
  clear hS hB
  cases hvi : V i with
  | true =>
    rw [hvi] at hV
    have HP : Hid (NeedPost P K rs l nb l.length i V W (.returned (.tuple #[])) W) := ⟨rfl, V, ⟨Keeps.refl _ _, HS.out.row⟩, NeedRel.same hvi⟩
    clear IH HB HS
    go_enter Try.func24, Try.ntmps24
    go_wp2_with fail
    go_end0
    exact HP.out
  | false =>
    rw [hvi] at hV
    go_enter Try.func24, Try.ntmps24
    go_upto_region 2 with fail
    have hS1 := HS.out.mark (V := V) hi
    have hK1 : Keeps (fun x => x = nb) W (W.setCell ⟨nb, i, none⟩ (.bool true)) := Keeps.setCell (S := fun x => x = nb) (Keeps.refl _ W) (p := ⟨nb, i, none⟩) (fun _ => rfl) (.bool true)
    generalize W.setCell ⟨nb, i, none⟩ (.bool true) = wm at hS1 hK1 ⊢
    clear b1 b2 b3 hV hfr lnb HS
    have hkn := hS1.kn HB.out
    obtain ⟨_, d2, _⟩ := hS1.cells HB.out
    obtain ⟨s, hs⟩ : ∃ s, l[i]? = some s := ⟨_, List.getElem?_eq_getElem hi⟩
    obtain ⟨g, o, sc, rfl, hsc, t0, t1, t2, t3⟩ := hkn.mem.step_cells hs
    obtain ⟨_, _, _, k3, k4⟩ := hkn.mem.cells
    have HNE : Hid (∀ W', Keeps (fun _ => False) wm W' → Calls Try.prog 25 #[.pointer (some ⟨kb, 0, none⟩), .agg #[.int .i64 s.rule, .int .i64 s.role, .int .i64 s.who, .int .i64 s.mid]] W' (NeedsPost (needsL P K rs s) W')) := fun W' hk' => by
      have h' := hkn.quiet hk'
      exact needs_spec (by have := h'.hP; omega) (by have := h'.hK; omega) h'.mem h'.hrs h'.hcap h'.row s
    have HDEP := Lib.hid (dep_at hkn.hP hkn.hK hkn.good hs)
    have HSS := Lib.hid hs
    have hlen2 := @needs_len P K rs s
    obtain ⟨⟨fl, fo⟩, hx⟩ : ∃ x, needsL P K rs s = x := ⟨_, rfl⟩
    have HX := Lib.hid hx
    simp only [hx] at HNE HDEP hlen2
    obtain ⟨rule, role, who, mid⟩ := s
    simp only [] at t0 t1 t2 t3 HNE
    have H0 : (fun w' => w'.cell? ⟨kbx, 0, none⟩ = some (.pointer (some ⟨kb, 0, none⟩)) ∧ w'.cell? ⟨kb, 4, none⟩ = some (.slice (some ⟨g, o, none⟩) l.length sc) ∧ w'.cell? ⟨g, o + i * 4, none⟩ = some (.int .i64 rule) ∧ w'.cell? ⟨g, o + i * 4 + 1, none⟩ = some (.int .i64 role) ∧ w'.cell? ⟨g, o + i * 4 + 2, none⟩ = some (.int .i64 who) ∧ w'.cell? ⟨g, o + i * 4 + 3, none⟩ = some (.int .i64 mid)) wm := ⟨d2, k4, t0, t1, t2, t3⟩
    have HSK : Hid (∀ W', Keeps (fun _ => False) wm W' → (fun w' => w'.cell? ⟨kbx, 0, none⟩ = some (.pointer (some ⟨kb, 0, none⟩)) ∧ w'.cell? ⟨kb, 4, none⟩ = some (.slice (some ⟨g, o, none⟩) l.length sc) ∧ w'.cell? ⟨g, o + i * 4, none⟩ = some (.int .i64 rule) ∧ w'.cell? ⟨g, o + i * 4 + 1, none⟩ = some (.int .i64 role) ∧ w'.cell? ⟨g, o + i * 4 + 2, none⟩ = some (.int .i64 who) ∧ w'.cell? ⟨g, o + i * 4 + 3, none⟩ = some (.int .i64 mid)) W') := fun W' hk' => by
      have hl := lt_of_cell t0
      have hl2 := lt_of_cell d2
      have hl3 := lt_of_cell k4
      exact ⟨(hk'.cell hl2 (fun x => x)).trans d2, (hk'.cell hl3 (fun x => x)).trans k4, (hk'.cell hl (fun x => x)).trans t0, (hk'.cell (p := ⟨g, o + i * 4 + 1, none⟩) hl (fun x => x)).trans t1, (hk'.cell (p := ⟨g, o + i * 4 + 2, none⟩) hl (fun x => x)).trans t2, (hk'.cell (p := ⟨g, o + i * 4 + 3, none⟩) hl (fun x => x)).trans t3⟩
    have HS1 := Lib.hid hS1
    have HK1 := Lib.hid hK1
    clear hkn hs hx d2 t0 t1 t2 t3 k3 k4 hS1 hK1
    refine wp_region_noPanic ?_
    refine wp_region_held_drew (S := (fun w' => w'.cell? ⟨kbx, 0, none⟩ = some (.pointer (some ⟨kb, 0, none⟩)) ∧ w'.cell? ⟨kb, 4, none⟩ = some (.slice (some ⟨g, o, none⟩) l.length sc) ∧ w'.cell? ⟨g, o + i * 4, none⟩ = some (.int .i64 rule) ∧ w'.cell? ⟨g, o + i * 4 + 1, none⟩ = some (.int .i64 role) ∧ w'.cell? ⟨g, o + i * 4 + 2, none⟩ = some (.int .i64 who) ∧ w'.cell? ⟨g, o + i * 4 + 3, none⟩ = some (.int .i64 mid))) (by kernel_rfl) H0 (fun hHeld => ?_)
    refine wpAnyH_take_at (i := 0) (v := ?v0) rfl (by kernel_rfl) (by kernel_rfl) (by kernel_rfl) (fun _ _ _ h => h) (Or.inl ⟨by rfl, ?y0⟩) hHeld ?r0
    case y0 => (intro w hSw; (try dsimp only at hSw); go_simp; first | done | with_reducible rfl)
    (try simp only [Act.put, List.setIfInBounds_toArray, List.set_cons_zero, List.set_cons_succ])
    refine wpAnyH_take_at (i := 1) (v := ?v1) rfl (by kernel_rfl) (by kernel_rfl) (by kernel_rfl) (fun _ _ _ h => h) (Or.inl ⟨by rfl, ?y1⟩) hHeld ?r1
    case y1 => (intro w hSw; (try dsimp only at hSw); go_simp; first | done | with_reducible rfl)
    (try simp only [Act.put, List.setIfInBounds_toArray, List.set_cons_zero, List.set_cons_succ])
    refine wpAnyH_take_at (i := 2) (v := ?v2) rfl (by kernel_rfl) (by kernel_rfl) (by kernel_rfl) (fun _ _ _ h => h) (Or.inl ⟨by rfl, ?y2⟩) hHeld ?r2
    case y2 => (intro w hSw; (try dsimp only at hSw); go_simp; first | done | with_reducible rfl)
    (try simp only [Act.put, List.setIfInBounds_toArray, List.set_cons_zero, List.set_cons_succ])
    refine wpAnyH_take_at (i := 3) (v := ?v3) rfl (by kernel_rfl) (by kernel_rfl) (by kernel_rfl) (fun _ _ _ h => h) (Or.inl ⟨by rfl, ?y3⟩) hHeld ?r3
    case y3 => (intro w hSw; (try dsimp only at hSw); go_simp; first | done | with_reducible rfl)
    (try simp only [Act.put, List.setIfInBounds_toArray, List.set_cons_zero, List.set_cons_succ])
    refine wpAnyH_take_at (i := 4) (v := ?v4) rfl (by kernel_rfl) (by kernel_rfl) (by kernel_rfl) (fun _ _ _ h => h) (Or.inl ⟨by rfl, ?y4⟩) hHeld ?r4
    case y4 => (intro w hSw; (try dsimp only at hSw); go_simp; first | done | with_reducible rfl)
    (try simp only [Act.put, List.setIfInBounds_toArray, List.set_cons_zero, List.set_cons_succ])
    refine wpAnyH_take_at (i := 5) (v := ?v5) rfl (by kernel_rfl) (by kernel_rfl) (by kernel_rfl) (fun _ _ _ h => h) (Or.inl ⟨by rfl, ?y5⟩) hHeld ?r5
    case y5 => (intro w hSw; (try dsimp only at hSw); go_simp; first | done | with_reducible rfl)
    (try simp only [Act.put, List.setIfInBounds_toArray, List.set_cons_zero, List.set_cons_succ])
    refine wpAnyH_take_at (i := 6) (v := ?v6) rfl (by kernel_rfl) (by kernel_rfl) (by kernel_rfl) (fun _ _ _ h => h) (Or.inl ⟨by rfl, ?y6⟩) hHeld ?r6
    case y6 => (intro w hSw; (try dsimp only at hSw); go_simp; first | done | with_reducible rfl)
    (try simp only [Act.put, List.setIfInBounds_toArray, List.set_cons_zero, List.set_cons_succ])
    refine wpAnyH_take_at (i := 7) (v := ?v7) rfl (by kernel_rfl) (by kernel_rfl) (by kernel_rfl) (fun _ _ _ h => h) (Or.inl ⟨by rfl, ?y7⟩) hHeld ?r7
    case y7 => (intro w hSw; (try dsimp only at hSw); go_simp; first | done | with_reducible rfl)
    (try simp only [Act.put, List.setIfInBounds_toArray, List.set_cons_zero, List.set_cons_succ])
    refine wpAnyH_one (i := 8) (by kernel_rfl) rfl (fun KK hK => ?_)
    go_simp
    refine (HNE.out _ ((Keeps.refl _ _).drew)).mono ?_
    rintro e wA ⟨lo, lc, rfl, hlc, hrow, hbA⟩
    go_simp
    have hkA := Keeps.of_below (S := fun _ => False) hbA (Nat.le_refl _)
    have HKA : Hid (Keeps (fun _ => False) wm wA) := ((Keeps.refl (fun _ => False) wm).drew).trans hkA
    refine hK.out _ _ ?s8 (fun hHeld => ?_)
    case s8 => exact HSK.out _ HKA.out
    clear hK KK
    (try simp only [Act.put, List.setIfInBounds_toArray, List.set_cons_zero, List.set_cons_succ])
    refine wpAnyH_take_at (i := 9) (v := ?v9) rfl (by kernel_rfl) (by kernel_rfl) (by kernel_rfl) (fun _ _ _ h => h) (Or.inl ⟨by rfl, ?y9⟩) hHeld ?r9
    case y9 => (intro w hSw; (try dsimp only at hSw); go_simp; first | done | with_reducible rfl)
    (try simp only [Act.put, List.setIfInBounds_toArray, List.set_cons_zero, List.set_cons_succ])
    refine wpAnyH_take_at (i := 10) (v := ?v10) rfl (by kernel_rfl) (by kernel_rfl) (by kernel_rfl) (fun _ _ _ h => h) (Or.inl ⟨by rfl, ?y10⟩) hHeld ?r10
    case y10 => (intro w hSw; (try dsimp only at hSw); go_simp; first | done | with_reducible rfl)
    (try simp only [Act.put, List.setIfInBounds_toArray, List.set_cons_zero, List.set_cons_succ])
    refine wpAnyH_take_at (i := 11) (v := ?v11) rfl (by kernel_rfl) (by kernel_rfl) (by kernel_rfl) (fun _ _ _ h => h) (Or.inl ⟨by rfl, ?y11⟩) hHeld ?r11
    case y11 => (intro w hSw; (try dsimp only at hSw); go_simp; first | done | with_reducible rfl)
    (try simp only [Act.put, List.setIfInBounds_toArray, List.set_cons_zero, List.set_cons_succ])
    refine wpAnyH_take_at (i := 12) (v := ?v12) rfl (by kernel_rfl) (by kernel_rfl) (by kernel_rfl) (fun _ _ _ h => h) (Or.inl ⟨by rfl, ?y12⟩) hHeld ?r12
    case y12 => (intro w hSw; (try dsimp only at hSw); go_simp; first | done | with_reducible rfl)
    (try simp only [Act.put, List.setIfInBounds_toArray, List.set_cons_zero, List.set_cons_succ])
    refine wpAnyH_take_at (i := 13) (v := ?v13) rfl (by kernel_rfl) (by kernel_rfl) (by kernel_rfl) (fun _ _ _ h => h) (Or.inl ⟨by rfl, ?y13⟩) hHeld ?r13
    case y13 => (intro w hSw; (try dsimp only at hSw); go_simp; first | done | with_reducible rfl)
    (try simp only [Act.put, List.setIfInBounds_toArray, List.set_cons_zero, List.set_cons_succ])
    refine wpAnyH_done (by kernel_rfl) ?_ _
    refine NoPanic.normal ?_
    clear hHeld H0 HSK HNE hkA hbA
    have HSA := Lib.hid (HS1.out.quiet HKA.out)
    have HKW : Hid (Keeps (fun x => x = nb) W wA) := HK1.out.trans (HKA.out.mono (fun _ _ x => x.elim))
    have HM0 : Hid (Marks (Dep P K rs l) i (fun k => ∃ (t : Nat) (f : Int × Int), t < 0 ∧ fl[t]? = some f ∧ atF l f.1 f.2 = some k) V (markV V i)) := by
      have h0 := Marks.start (D := Dep P K rs l) (i := i) (V := V)
      exact ⟨h0.sub, h0.me, h0.why, h0.closed, fun k ⟨_, _, h, _⟩ => absurd h (Nat.not_lt_zero _)⟩
    clear HS1 HK1 HKA
    go_wp2_with fail
    have HROW := Lib.hid hrow.out
    clear hrow
    go_loopg [30] fl.length (fun g t wy => ∃ (j : Nat) (V2 : Nat → Bool), j ≤ fl.length ∧ g = fl.length - j ∧ t = .int .i64 j ∧ Hid (NdS W0 nb l.length V2 wy) ∧ Hid (FcRow wy lo fl) ∧ Hid (Keeps (fun x => x = nb) W wy) ∧ Hid (Marks (Dep P K rs l) i (fun k => ∃ (t : Nat) (f : Int × Int), t < j ∧ fl[t]? = some f ∧ atF l f.1 f.2 = some k) V V2))
    case atStart => exact ⟨0, markV V i, Nat.zero_le _, rfl, rfl, HSA.out, HROW.out, HKW.out, HM0.out⟩
    case round =>
      clear HSA HROW HKW HM0
      obtain ⟨j, V2, hj, rfl, rfl, HSA, HROW, HKW, HM⟩ := hrel
      by_cases hlt : j < fl.length
      · have hjI : (j : Int) < (fl.length : Int) := by omega
        obtain ⟨f, hf⟩ : ∃ f, fl[j]? = some f := ⟨_, List.getElem?_eq_getElem hlt⟩
        obtain ⟨bb, rfl, hbb, hc⟩ := HROW.out (by omega)
        obtain ⟨c0, c1⟩ := hc j f hf
        obtain ⟨ia, ib, k0, hk0, hat⟩ := HDEP.out f (List.mem_of_getElem? hf)
        have HCALL : Hid (∀ W', NdS W0 nb l.length V2 W' → Calls Try.prog 24 #[.int .i64 k0, .pointer (some ⟨nbx, 0, none⟩), .pointer (some ⟨kbx, 0, none⟩), .pointer (some ⟨fbx, 0, none⟩)] W' (NeedPost P K rs l nb l.length k0 V2 W')) := fun W' h => IH.out k0 hk0 (by omega) V2 W' h
        have HD : Hid (Dep P K rs l i k0) := ⟨_, f, HSS.out, by rw [HX.out]; exact List.mem_of_getElem? hf, hat⟩
        have HMS : Hid (∀ V3, NeedRel (Dep P K rs l) k0 V2 V3 → Marks (Dep P K rs l) i (fun k => ∃ (t : Nat) (f : Int × Int), t < j + 1 ∧ fl[t]? = some f ∧ atF l f.1 f.2 = some k) V V3) := fun V3 hn => HM.out.step HD.out hn (fun k ⟨t, f', ht, hf', hk⟩ => by
          rcases Nat.lt_or_ge t j with h | h
          · exact .inl ⟨t, f', h, hf', hk⟩
          · obtain rfl : t = j := by omega
            rw [hf] at hf'; cases hf'
            rw [hat] at hk; cases hk
            exact .inr rfl)
        obtain ⟨fa, fb⟩ := f
        simp only [Nat.zero_add] at c0 c1
        have hne := HSA.out.ne HROW.out (by omega)
        have HROW2 : Hid (∀ W', Keeps (fun x => x = nb) wr W' → FcRow W' (some ⟨bb, 0, none⟩) fl) := fun W' hk => HROW.out.keepsN hk (fun b' e _ => by cases e; exact hne)
        have HS6 : Hid (∀ W', Keeps (fun x => x = nb) (wr.alloc (.cells #[.int .i64 fa, .int .i64 fb] 57)) W' → (fun w' => w'.cell? ⟨fbx, 0, none⟩ = some (.func (.func 24) #[] #[.pointer (some ⟨nbx, 0, none⟩), .pointer (some ⟨kbx, 0, none⟩), .pointer (some ⟨fbx, 0, none⟩)]) ∧ w'.cell? ⟨kbx, 0, none⟩ = some (.pointer (some ⟨kb, 0, none⟩)) ∧ w'.cell? ⟨kb, 3, none⟩ = some (.map (some mb)) ∧ w'.cell? ⟨wr.heap.size, 0, none⟩ = some (.int .i64 fa) ∧ w'.cell? ⟨wr.heap.size, 1, none⟩ = some (.int .i64 fb) ∧ (Instr.lookup 53 (.map (some mb)) (.agg #[.int .i64 fa, .int .i64 fb]) false).run Try.prog w' = .ok (.int .i64 k0) w') W') := fun W' hk => by
          have hSa := HSA.out.quiet (W' := wr.alloc (.cells #[.int .i64 fa, .int .i64 fb] 57)) ((Keeps.refl _ _).alloc _)
          have hka := hSa.kn HB.out
          have hkm := hka.mem.keeps hk (fun x hx e => HB.out.nf (e ▸ hx))
          obtain ⟨_, d2, d3⟩ := hSa.cells HB.out
          obtain ⟨_, _, _, q3, _⟩ := hkm.cells
          have hb : W'.heap[wr.heap.size]? = some (.cells #[.int .i64 fa, .int .i64 fb] 57 (0, 0)) := (hk.block _ (lt_of_heap (MapKept.heap_alloc wr _).1) (fun e => by have := lt_of_heap HSA.out.row; omega)).trans (MapKept.heap_alloc wr _).1
          exact ⟨(hk.cell (p := ⟨fbx, 0, none⟩) (lt_of_cell d3) HB.out.n3).trans d3, (hk.cell (p := ⟨kbx, 0, none⟩) (lt_of_cell d2) HB.out.n2).trans d2, q3, by rw [cell_of_heap hb]; rfl, by rw [cell_of_heap hb]; rfl, hkm.look ia ib hat⟩
        have H6 := HS6.out _ ((Keeps.refl _ _).drew)
        clear hc hf hne HM
        go_upto_region 6 with fail
        refine wp_region_noPanic ?_
        refine wp_region_held_drew (S := (fun w' => w'.cell? ⟨fbx, 0, none⟩ = some (.func (.func 24) #[] #[.pointer (some ⟨nbx, 0, none⟩), .pointer (some ⟨kbx, 0, none⟩), .pointer (some ⟨fbx, 0, none⟩)]) ∧ w'.cell? ⟨kbx, 0, none⟩ = some (.pointer (some ⟨kb, 0, none⟩)) ∧ w'.cell? ⟨kb, 3, none⟩ = some (.map (some mb)) ∧ w'.cell? ⟨wr.heap.size, 0, none⟩ = some (.int .i64 fa) ∧ w'.cell? ⟨wr.heap.size, 1, none⟩ = some (.int .i64 fb) ∧ (Instr.lookup 53 (.map (some mb)) (.agg #[.int .i64 fa, .int .i64 fb]) false).run Try.prog w' = .ok (.int .i64 k0) w')) (by kernel_rfl) H6 (fun hHeld => ?_)
        refine wpAnyH_take_at (i := 0) (v := ?v0f) rfl (by kernel_rfl) (by kernel_rfl) (by kernel_rfl) (fun _ _ _ h => h) (Or.inl ⟨by rfl, ?y0f⟩) hHeld ?r0f
        case y0f => (intro w hSw; (try dsimp only at hSw); go_simp; first | done | with_reducible rfl)
        (try simp only [Act.put, List.setIfInBounds_toArray, List.set_cons_zero, List.set_cons_succ])
        refine wpAnyH_take_at (i := 1) (v := ?v1f) rfl (by kernel_rfl) (by kernel_rfl) (by kernel_rfl) (fun _ _ _ h => h) (Or.inl ⟨by rfl, ?y1f⟩) hHeld ?r1f
        case y1f => (intro w hSw; (try dsimp only at hSw); go_simp; first | done | with_reducible rfl)
        (try simp only [Act.put, List.setIfInBounds_toArray, List.set_cons_zero, List.set_cons_succ])
        refine wpAnyH_take_at (i := 2) (v := ?v2f) rfl (by kernel_rfl) (by kernel_rfl) (by kernel_rfl) (fun _ _ _ h => h) (Or.inl ⟨by rfl, ?y2f⟩) hHeld ?r2f
        case y2f => (intro w hSw; (try dsimp only at hSw); go_simp; first | done | with_reducible rfl)
        (try simp only [Act.put, List.setIfInBounds_toArray, List.set_cons_zero, List.set_cons_succ])
        refine wpAnyH_take_at (i := 3) (v := ?v3f) rfl (by kernel_rfl) (by kernel_rfl) (by kernel_rfl) (fun _ _ _ h => h) (Or.inl ⟨by rfl, ?y3f⟩) hHeld ?r3f
        case y3f => (intro w hSw; (try dsimp only at hSw); go_simp; first | done | with_reducible rfl)
        (try simp only [Act.put, List.setIfInBounds_toArray, List.set_cons_zero, List.set_cons_succ])
        refine wpAnyH_take_at (i := 4) (v := ?v4f) rfl (by kernel_rfl) (by kernel_rfl) (by kernel_rfl) (fun _ _ _ h => h) (Or.inl ⟨by rfl, ?y4f⟩) hHeld ?r4f
        case y4f => (intro w hSw; (try dsimp only at hSw); go_simp; first | done | with_reducible rfl)
        (try simp only [Act.put, List.setIfInBounds_toArray, List.set_cons_zero, List.set_cons_succ])
        refine wpAnyH_take_at (i := 5) (v := ?v5f) rfl (by kernel_rfl) (by kernel_rfl) (by kernel_rfl) (fun _ _ _ h => h) (Or.inl ⟨by rfl, ?y5f⟩) hHeld ?r5f
        case y5f => (intro w hSw; (try dsimp only at hSw); go_simp; first | done | with_reducible rfl)
        (try simp only [Act.put, List.setIfInBounds_toArray, List.set_cons_zero, List.set_cons_succ])
        refine wpAnyH_take_at (i := 6) (v := ?v6f) rfl (by kernel_rfl) (by kernel_rfl) (by kernel_rfl) (fun _ _ _ h => h) (Or.inl ⟨by rfl, ?y6f⟩) hHeld ?r6f
        case y6f => (intro w hSw; (try dsimp only at hSw); go_simp; first | done | with_reducible rfl)
        (try simp only [Act.put, List.setIfInBounds_toArray, List.set_cons_zero, List.set_cons_succ])
        refine wpAnyH_one (i := 7) (by kernel_rfl) rfl (fun KK hK => ?_)
        go_simp
        refine (HCALL.out _ (HSA.out.quiet (((Keeps.refl _ _).alloc _).drew))).mono ?_
        rintro e wC ⟨rfl, V3, hw, hn⟩
        go_simp
        have hkc : Keeps (fun x => x = nb) (wr.alloc (.cells #[.int .i64 fa, .int .i64 fb] 57)) wC := ((Keeps.refl (fun x => x = nb) _).drew).trans hw.out.1
        have hkr : Keeps (fun x => x = nb) wr wC := ((Keeps.refl (fun x => x = nb) wr).alloc _).trans hkc
        have HS7 := Lib.hid (HS6.out _ hkc)
        have HREL : Hid (NdS W0 nb l.length V3 wC ∧ FcRow wC (some ⟨bb, 0, none⟩) fl ∧ Keeps (fun x => x = nb) W wC ∧ Marks (Dep P K rs l) i (fun k => ∃ (t : Nat) (f : Int × Int), t < j + 1 ∧ fl[t]? = some f ∧ atF l f.1 f.2 = some k) V V3) := ⟨⟨HSA.out.keeps.trans hkr, hw.out.2⟩, HROW2.out _ hkr, HKW.out.trans hkr, HMS.out _ hn.out⟩
        clear hw hn hkc hkr
        refine hK.out _ _ ?s7g (fun hHeld => ?_)
        case s7g => exact HS7.out
        clear hK KK
        (try simp only [Act.put, List.setIfInBounds_toArray, List.set_cons_zero, List.set_cons_succ])
        refine wpAnyH_done (by kernel_rfl) ?_ _
        refine NoPanic.normal ?_
        clear hHeld H6 HS6 HS7
        go_wp2_with fail
        go_roundg (fl.length - (j + 1))
        case measure => omega
        case rel => exact ⟨j + 1, V3, by omega, rfl, by go_num, HREL.out.1, HREL.out.2.1, HREL.out.2.2.1, HREL.out.2.2.2⟩
      · have hjE : j = fl.length := by omega
        have hjI : ¬ (j : Int) < (fl.length : Int) := by omega
        have HP : Hid (NeedPost P K rs l nb l.length i V W (.returned (.tuple #[])) wr) := by
          refine ⟨rfl, V2, ⟨HKW.out, HSA.out.row⟩, HM.out.done ?_⟩
          rintro k ⟨s', f, hs', hf, hk⟩
          rw [HSS.out] at hs'
          cases hs'
          rw [HX.out] at hf
          obtain ⟨t, ht, he⟩ := List.mem_iff_getElem.1 hf
          have ht' : t < fl.length := ht
          exact ⟨t, f, by omega, by rw [List.getElem?_eq_getElem ht', ← he], hk⟩
        clear HSA HROW HKW HM
        go_wp2_with fail
        go_end0
        exact HP.out
end
end Go.Proofs.Ytahnedkdodjomaa
