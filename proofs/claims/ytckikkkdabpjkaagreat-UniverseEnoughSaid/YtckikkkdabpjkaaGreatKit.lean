/-
  Small laws of my own, over any program: what the reading of a flat type (integers, bools, strings, structs and arrays of these) says of its cells; a slice of such; a law's contract out of its walk.
-/
import Derived.WalkKit
import Derived.WalkSpells
import Derived.ProofKit
import Derived.OpenShut
import Derived.ShutString
import Derived.ChangeOld
import Derived.Below
import Derived.Deep.Slices
import Derived.Deep.Draws
set_option linter.unusedVariables false
set_option linter.unusedSimpArgs false
set_option linter.unnecessarySimpa false
namespace Go.Proofs.YtckikkkdabpjkaaGreat
open Go.ChangeShapes Go.WideShapes Go.ChangeAt Go.RowKit Go.Deep

/-- What a cell of a flat type may hold. -/
inductive Leaf where
  | bool
  | int (k : IntKind)
  | string
def Leaf.ok : Leaf → Value → Prop
  | .bool, v => ∃ b, v = .bool b
  | .int k, v => ∃ n, v = .int k n ∧ (Lit.int k n).wf = true
  | .string, v => ∃ s, v = .string s ∧ s.size ≤ maxLen

def leavesFs (g : TypeId → Option (List Leaf)) (c : TypeId → Nat) : Nat → List Field → Option (List Leaf)
  | _, [] => some []
  | off, f :: r => if f.offset = off then (match g f.type with | some l => if l.length = c f.type then (leavesFs g c (off + l.length) r).map (l ++ ·) else none | none => none) else none
def leaves (P : Program) : Nat → TypeId → Option (List Leaf)
  | 0, _ => none
  | n + 1, t => match P.underlying t with
    | some .bool => some [.bool]
    | some (.int k) => some [.int k]
    | some .string => some [.string]
    | some (.struct fs) => leavesFs (leaves P n) P.cellsOf 0 fs.toList
    | some (.array k e) => match leaves P n e with | some l => if l.length = P.cellsOf e then some (List.replicate k l).flatten else none | none => none
    | _ => none

section
variable {H : Type} {enc : TypeId × Value → H} {P : Program} {w : World} {base : Nat} {spare : Nat → Bool} {held : Bool}

/-- The cells 'cs' hold, from 'off' on, what the leaves say. -/
def Fits (ls : List Leaf) (off : Nat) (cs : List Value) : Prop := ∀ j l, ls[j]? = some l → ∃ v, cs[off + j]? = some v ∧ l.ok v

theorem Fits.append {a b : List Leaf} {off : Nat} {cs : List Value} (ha : Fits a off cs) (hb : Fits b (off + a.length) cs) : Fits (a ++ b) off cs := by
  intro j l h
  rw [List.getElem?_append] at h
  split at h
  · exact ha j l h
  · obtain ⟨v, h1, h2⟩ := hb _ _ h
    exact ⟨v, by rw [← h1]; congr 1; omega, h2⟩

theorem fits_fs {g : TypeId → Option (List Leaf)} {c : TypeId → Nat} {cs : List Value} (R : TypeId → List Value → Prop)
    (hg : ∀ t l seg, g t = some l → R t seg → Fits l 0 seg) :
    ∀ (fs : List Field) (off : Nat) (ls : List Leaf), leavesFs g c off fs = some ls → (∀ f ∈ fs, R f.type ((cs.drop f.offset).take (c f.type))) → Fits ls off cs
  | [], off, ls, h, _ => by simp only [leavesFs, Option.some.injEq] at h; subst h; intro j l h; simp at h
  | f :: r, off, ls, h, hR => by
    unfold leavesFs at h
    split at h
    · rename_i hoff
      split at h
      · rename_i l hl
        split at h
        · rename_i hlen
          obtain ⟨ls', h', rfl⟩ := Option.map_eq_some_iff.1 h
          refine Fits.append ?_ (fits_fs R hg r _ _ h' fun f' hf' => hR f' (List.mem_cons_of_mem _ hf'))
          have k := hg _ _ _ hl (hR f List.mem_cons_self)
          intro j x hj
          obtain ⟨v, h1, h2⟩ := k j x hj
          refine ⟨v, ?_, h2⟩
          rw [Nat.zero_add, List.getElem?_take] at h1
          split at h1
          · rw [List.getElem?_drop, hoff] at h1; exact h1
          · cases h1
        · cases h
      · cases h
    · cases h

theorem flatten_get {α : Type} (l : List α) : ∀ (k j : Nat) (x : α), (List.replicate k l).flatten[j]? = some x → j / l.length < k ∧ l[j % l.length]? = some x
  | 0, j, x, h => by simp at h
  | k + 1, j, x, h => by
    rw [List.replicate_succ, List.flatten_cons, List.getElem?_append] at h
    split at h
    · rename_i hj
      rw [Nat.div_eq_of_lt hj, Nat.mod_eq_of_lt hj]
      exact ⟨by omega, h⟩
    · rename_i hj
      obtain ⟨h1, h2⟩ := flatten_get l k _ x h
      have hpos : 0 < l.length := by
        rcases Nat.eq_zero_or_pos l.length with h0 | h0
        · rw [h0] at h2; have := List.eq_nil_of_length_eq_zero h0; subst this; simp at h2
        · exact h0
      have hj' : j = (j - l.length) + l.length := by omega
      have e1 : j / l.length = (j - l.length) / l.length + 1 := by
        conv => lhs; rw [hj']
        rw [Nat.add_div_right _ hpos]
      have e2 : j % l.length = (j - l.length) % l.length := by
        conv => lhs; rw [hj']
        rw [Nat.add_mod_right]
      rw [e1, e2]
      exact ⟨by omega, h2⟩

/-- THE READING OF A FLAT TYPE: its cells are as the leaves say. -/
theorem fits_of_trod : ∀ (n : Nat) (t : TypeId) (ls : List Leaf), leaves P n t = some ls → ∀ (m : Nat) (cs : List Value) (x : DataW H × List MemPlace),
    DataW.trod enc P w base spare held m t cs = some x → Fits ls 0 cs
  | 0, t, ls, h, _, _, _, _ => by simp [leaves] at h
  | n + 1, t, ls, h, m, cs, x, hx => by
    unfold leaves at h
    split at h
    · rename_i hu
      simp only [Option.some.injEq] at h; subst h
      cases m with
      | zero => simp [DataW.trod] at hx
      | succ m =>
        unfold DataW.trod at hx; rw [hu] at hx
        split at hx <;> simp_all
        intro j l hj
        match j, hj with
        | 0, hj => simp at hj; subst hj; exact ⟨_, rfl, _, rfl⟩
    · rename_i k hu
      simp only [Option.some.injEq] at h; subst h
      cases m with
      | zero => simp [DataW.trod] at hx
      | succ m =>
        unfold DataW.trod at hx; rw [hu] at hx
        split at hx <;> simp_all
        intro j l hj
        match j, hj with
        | 0, hj => simp at hj; subst hj; exact ⟨_, rfl, _, rfl, by simp_all⟩
    · rename_i hu
      simp only [Option.some.injEq] at h; subst h
      cases m with
      | zero => simp [DataW.trod] at hx
      | succ m =>
        unfold DataW.trod at hx; rw [hu] at hx
        split at hx <;> simp_all
        intro j l hj
        match j, hj with
        | 0, hj => simp at hj; subst hj; exact ⟨_, rfl, _, rfl, by simp_all⟩
    · rename_i fs hu
      obtain ⟨xs, m', rfl, rfl, hlen, hxs, hel⟩ := DataW.trod_struct hu hx
      refine fits_fs (fun t seg => ∃ y, DataW.trod enc P w base spare held m' t seg = some y) (fun t l seg hl ⟨y, hy⟩ => fits_of_trod n t l hl m' seg y hy) _ 0 ls h ?_
      intro f hf
      obtain ⟨i, hi⟩ := List.mem_iff_getElem?.1 hf
      have hi' : fs[i]? = some f := by simpa using hi
      have := hel i f hi'
      have hlt : i < xs.length := by
        rw [hxs]; rcases Nat.lt_or_ge i fs.size with h | h
        · exact h
        · rw [Array.getElem?_eq_none h] at hi'; cases hi'
      rw [List.getElem?_eq_getElem hlt] at this
      exact ⟨_, this⟩
    · rename_i k e hu
      split at h
      · rename_i l hl
        split at h
        · rename_i hlen'
          simp only [Option.some.injEq] at h; subst h
          obtain ⟨xs, m', rfl, rfl, hlen, hxs, hel⟩ := DataW.trod_array hu hx
          intro j y hj
          obtain ⟨h1, h2⟩ := flatten_get l k j y hj
          have := hel _ h1
          rw [List.getElem?_eq_getElem (by omega)] at this
          obtain ⟨v, h3, h4⟩ := fits_of_trod n e l hl m' _ _ this _ _ h2
          refine ⟨v, ?_, h4⟩
          rw [Nat.zero_add] at h3 ⊢
          rw [List.getElem?_take] at h3
          split at h3
          · rw [List.getElem?_drop, ← hlen'] at h3
            rw [← h3]; congr 1
            have := Nat.div_add_mod j l.length
            rw [Nat.mul_comm] at this; omega
          · cases h3
        · cases h
      · cases h
    · cases h

/-- A slice value of n elements, each of the cells 'ls': element i's cell j holds 'G i j'. (Of an empty one nothing is said of the address.) -/
structure IsRow (w : World) (ls : List Leaf) (ao : Option Addr) (n cap : Nat) (G : Nat → Nat → Value) : Prop where
  le : n ≤ cap
  max : cap ≤ maxLen
  at_ : 0 < n → ∃ b off, ao = some ⟨b, off, none⟩ ∧ b < w.heap.size ∧ ∀ i j : Nat, i < n → j < ls.length → w.cell? ⟨b, off + (i * ls.length + j), none⟩ = some (G i j)
  ok : ∀ (i j : Nat) (l : Leaf), i < n → ls[j]? = some l → l.ok (G i j)

theorem lt_of_cell {w : World} {a : Addr} {v : Value} (h : w.cell? a = some v) : a.block < w.heap.size := by
  unfold World.cell? at h
  rcases Nat.lt_or_ge a.block w.heap.size with h' | h'
  · exact h'
  · rw [Array.getElem?_eq_none h'] at h; simp at h

theorem isRow_of_trod {n : Nat} {t e : TypeId} {ls : List Leaf} {fuel : Nat} {ao : Option Addr} {len cap : Nat} {x : DataW H × List MemPlace}
    (ht : P.underlying t = some (.slice e)) (hls : leaves P n e = some ls) (hc : P.cellsOf e = ls.length) (hpos : 0 < ls.length)
    (h : DataW.trod enc P w base spare held fuel t [.slice ao len cap] = some x) : ∃ G, IsRow w ls ao len cap G := by
  rcases open_slice ht h with ⟨h0, _⟩ | ⟨a, len', cap', m, n', D, Pl, hcs, hb, hl, hm, hmm, rfl, hx⟩
  · simp only [List.cons.injEq, Value.slice.injEq, and_true] at h0
    obtain ⟨rfl, rfl, rfl⟩ := h0
    exact ⟨fun _ _ => undef, ⟨Nat.le_refl _, by unfold maxLen; omega, by omega, by omega⟩⟩
  · simp only [List.cons.injEq, Value.slice.injEq, and_true] at hcs
    obtain ⟨rfl, rfl, rfl⟩ := hcs
    have hlm : len ≤ m := by rw [hmm]; split <;> omega
    have key : ∀ i j, i < len → j < ls.length → ∃ l v, ls[j]? = some l ∧ w.cell? (a.add (i * ls.length + j)) = some v ∧ l.ok v := by
      intro i j hi hj
      obtain ⟨cs', h1, h2⟩ := hx i (by omega)
      obtain ⟨_, h3, h4⟩ := World.cells?_some h1
      obtain ⟨v, h5, h6⟩ := fits_of_trod n e ls hls n' cs' _ h2 j _ (List.getElem?_eq_getElem hj)
      refine ⟨_, v, List.getElem?_eq_getElem hj, ?_, h6⟩
      have := h4 j (by omega)
      rw [add_add, hc] at this
      rw [this]
      simpa using h5
    refine ⟨fun i j => (w.cell? (a.add (i * ls.length + j))).getD undef, ⟨hl, hm, fun h0 => ?_, fun i j l hi hl' => ?_⟩⟩
    · obtain ⟨_, v, _, h2, _⟩ := key 0 0 h0 hpos
      obtain ⟨b, off, spot⟩ := a
      have hspot : spot = none := by simpa [Addr.add] using World.cell?_spot h2
      subst hspot
      refine ⟨b, off, rfl, by simpa [Addr.add] using lt_of_cell h2, fun i j hi hj => ?_⟩
      obtain ⟨_, v, _, h2, _⟩ := key i j hi hj
      rw [add_plain] at h2
      simp only [add_plain, h2, Option.getD_some]
    · have hj : j < ls.length := by
        rcases Nat.lt_or_ge j ls.length with h | h
        · exact h
        · rw [List.getElem?_eq_none h] at hl'; cases hl'
      obtain ⟨l', v, h1, h2, h3⟩ := key i j hi hj
      rw [h1] at hl'; cases hl'
      simp only [h2, Option.getD_some]
      exact h3

theorem trodAll_below {W W' : World} (hl : laidOutB P = true) (hb : Below W.heap.size W W') :
    ∀ (ts : List TypeId) (vs : List Value) (ds : List (DataW H)) (ps : List MemPlace), (∀ t ∈ ts, P.readableRec t = true ∧ t < P.types.size) →
      DataW.TrodAll enc P W 0 (fun _ => true) true ts vs ds ps → DataW.TrodAll enc P W' 0 (fun b => decide (b < W.heap.size)) true ts vs ds ps
  | [], [], [], ps, _, h => h
  | t :: ts, v :: vs, d :: ds, ps, hr, h => by
    obtain ⟨p, q, h1, h2, h3⟩ := h
    have hlt : ∀ x ∈ p, x.block < W.heap.size := by obtain ⟨m, hm⟩ := h1; exact DataW.trod_lt m _ _ _ hm
    exact ⟨p, q, Below.trod hl (hr t List.mem_cons_self).1 (hr t List.mem_cons_self).2 h1 hb hlt, trodAll_below hl hb ts vs ds q (fun t' h' => hr t' (List.mem_cons_of_mem _ h')) h2, h3⟩
  | [], _ :: _, _, _, _, h => by simp [DataW.TrodAll] at h
  | [], [], _ :: _, _, _, h => by simp [DataW.TrodAll] at h
  | _ :: _, [], _, _, _, h => by simp [DataW.TrodAll] at h
  | _ :: _, _ :: _, [], _, _, h => by simp [DataW.TrodAll] at h

/-- A LAW's CONTRACT, out of what its walk says: true, and of what was there nothing has turned. -/
theorem law_contract {f : FuncId} {fn : Func} {s : ChangeSpec} {tb : TypeId} {W : World} {args : Array Value} {ds gs : List (DataW H)} {before : List MemPlace}
    (hl : laidOutB P = true) (hp : (fn.params.toList.all fun t => P.readableRec t && decide (t < P.types.size)) = true) (hres : fn.resultTypes = #[tb]) (htb : P.underlying tb = some .bool) (hvars : s.vars = [])
    (hW : DataW.Whole enc P fn.params.toList s.vars false W args.toList ds gs before)
    (hspec : (s.fn H (ds ++ gs)).results = [.lit (.bool true)] ∧ (s.fn H (ds ++ gs)).args = ds ∧ (s.fn H (ds ++ gs)).vars = [])
    (hc : Calls P f args W fun e W' => e = .returned (.bool true) ∧ Below W.heap.size W W') :
    Calls P f args W fun e W' => ∃ v, e = .returned v ∧ s.post enc P fn false true false false W args v W' := by
  refine hc.mono fun e W' ⟨he, bel⟩ => ?_
  subst he
  have hW' := hW
  obtain ⟨p, q, hA, hV, rfl, _, _⟩ := hW
  rw [hvars] at hV
  refine ⟨_, rfl, _, _, _, [], p, [], hW', ?_, ?_, ?_, bel.frame _, fun h => by cases h⟩
  · rw [hspec.1, hres]
    exact trodAll_mk1 (shut_bool htb _)
  · rw [hspec.2.1]
    refine trodAll_below hl bel _ _ _ _ (fun t ht => ?_) hA
    have := List.all_eq_true.1 hp t ht
    simpa using this
  · rw [hspec.2.2, hvars]; rfl
end
/-- But in the blocks S the old memory is as it was; the streams are as they were; no block has gone. -/
structure Keeps (S : Nat → Prop) (w w' : World) : Prop where
  os : w'.os = w.os
  tape : w'.tape = w.tape
  output : w'.output = w.output
  size : w.heap.size ≤ w'.heap.size
  block : ∀ k, k < w.heap.size → ¬ S k → w'.heap[k]? = w.heap[k]?
theorem lt_of_heap {w : World} {b : Nat} {o : Obj} (h : w.heap[b]? = some o) : b < w.heap.size := by
  rcases Nat.lt_or_ge b w.heap.size with h' | h'
  · exact h'
  · rw [Array.getElem?_eq_none h'] at h; cases h
theorem cell_of_heap {w : World} {b : Nat} {c : Array Value} {t : TypeId} {fr : Nat × Nat} (h : w.heap[b]? = some (.cells c t fr)) (i : Nat) : w.cell? ⟨b, i, none⟩ = c[i]? := by
  simp [World.cell?, h]
theorem free_of_heap {w : World} {b : Nat} {c : Array Value} {t : TypeId} (h : w.heap[b]? = some (.cells c t (0, 0))) (i : Nat) : w.frozen? ⟨b, i, none⟩ = false := by
  simp [World.frozen?, h]
theorem heap_set {w : World} {b : Nat} {c : Array Value} {t : TypeId} {fr : Nat × Nat} (h : w.heap[b]? = some (.cells c t fr)) (i : Nat) (v : Value) :
    (w.setCell ⟨b, i, none⟩ v).heap[b]? = some (.cells (c.setIfInBounds i v) t fr) := by
  simp [World.setCell, Array.getElem?_modify, h]
namespace Keeps
theorem drewN {S : Nat → Prop} {a w : World} (h : Keeps S a w) (n : Nat) : Keeps S a (w.drewN n) := ⟨h.os, h.tape, h.output, h.size, h.block⟩
variable {S T : Nat → Prop} {a w w' : World}
theorem refl (S : Nat → Prop) (w : World) : Keeps S w w := ⟨rfl, rfl, rfl, Nat.le_refl _, fun _ _ _ => rfl⟩
theorem trans (h : Keeps S a w) (k : Keeps S w w') : Keeps S a w' :=
  ⟨k.os.trans h.os, k.tape.trans h.tape, k.output.trans h.output, Nat.le_trans h.size k.size, fun i hi hs => (k.block i (Nat.lt_of_lt_of_le hi h.size) hs).trans (h.block i hi hs)⟩
theorem mono (h : Keeps S a w) (hs : ∀ k, k < a.heap.size → S k → T k) : Keeps T a w := ⟨h.os, h.tape, h.output, h.size, fun k hk hn => h.block k hk (fun s => hn (hs k hk s))⟩
theorem drew (h : Keeps S a w) : Keeps S a w.drew := ⟨h.os, h.tape, h.output, h.size, h.block⟩
theorem alloc (h : Keeps S a w) (o : Obj) : Keeps S a (w.alloc o) :=
  h.trans ⟨rfl, rfl, rfl, by simp, fun k hk _ => Below.heap_alloc _ _ _ hk⟩
theorem setCell (h : Keeps S a w) {p : Addr} (hp : p.block < a.heap.size → S p.block) (u : Value) : Keeps S a (w.setCell p u) :=
  ⟨h.os, h.tape, h.output, Nat.le_trans h.size (by simp [World.setCell]), fun k hk hs => (Below.heap_setCell _ _ _ _ (fun e => hs (by rw [e]; exact hp (by rw [← e]; exact hk)))).trans (h.block k hk hs)⟩
theorem of_below {B : Nat} (h : Below B w w') (hB : w.heap.size ≤ B) : Keeps S w w' := ⟨h.os, h.tape, h.output, h.size, fun k hk _ => h.block k (by omega)⟩
theorem below {B : Nat} (h : Keeps S w w') (hB : B ≤ w.heap.size) (hs : ∀ k, k < B → ¬ S k) : Below B w w' := ⟨h.os, h.tape, h.output, h.size, fun k hk => h.block k (by omega) (hs k hk)⟩
/-- What a callee wrote into blocks that were new to the caller is no matter of the caller's. -/
theorem trans_new (h : Keeps S a w) (k : Keeps T w w') (ht : ∀ i, i < a.heap.size → T i → S i) : Keeps S a w' :=
  ⟨k.os.trans h.os, k.tape.trans h.tape, k.output.trans h.output, Nat.le_trans h.size k.size, fun i hi hs => (k.block i (Nat.lt_of_lt_of_le hi h.size) (fun t => hs (ht i hi t))).trans (h.block i hi hs)⟩
theorem cell (h : Keeps S w w') {p : Addr} (hp : p.block < w.heap.size) (hs : ¬ S p.block) : w'.cell? p = w.cell? p := World.cell?_of_block (w := w) (h.block p.block hp hs)
theorem frozen (h : Keeps S w w') {p : Addr} (hp : p.block < w.heap.size) (hs : ¬ S p.block) : w'.frozen? p = w.frozen? p := World.frozen?_of_block (w := w) (h.block p.block hp hs)
end Keeps
/-- A row of cells written over, of whatever width the elements are. -/
theorem frozen_setCells (b : Nat) : ∀ (vs : List Value) (o : Nat) (w : World) (x : Addr), (w.setCells b o vs).frozen? x = w.frozen? x
  | [], _, _, _ => rfl
  | v :: r, o, w, x => by rw [World.setCells, frozen_setCells b r]; exact World.frozen?_setCell _ _ _ _
theorem Keeps.setCells {S : Nat → Prop} {a : World} (b : Nat) (hb : b < a.heap.size → S b) : ∀ (vs : List Value) (o : Nat) (w : World), Keeps S a w → Keeps S a (w.setCells b o vs)
  | [], _, _, h => h
  | v :: r, o, w, h => by rw [World.setCells]; exact Keeps.setCells b hb r _ _ (h.setCell (p := ⟨b, o, none⟩) hb v)
theorem run_clear_any {P : Program} (w : World) (t e ty : TypeId) (z : Value) (zs : List Value) (ht : P.underlying t = some (.slice e)) (hv : ∀ w, (zeroValue e).run P w = .ok z w) (b o n c : Nat) (hn : 0 < n) (hz : (Builtin.zeroCells z.cells n).toList = zs)
    (h1 : ∀ v ∈ zs, v.oneCell' = true) (hc : ∀ j, j < zs.length → (w.cell? ⟨b, o + j, none⟩).isSome = true) (hf : ∀ j, j < zs.length → w.frozen? ⟨b, o + j, none⟩ = false) :
    (Builtin.clear_ #[t] ty #[.slice (some ⟨b, o, none⟩) n c]).run P w = .ok (.tuple #[]) (w.setCells b o zs) := by
  have hst := run_storeCells_cells (P := P) b o zs 0 w (by simpa using hc) (by simpa using hf) h1
  simp only [Nat.add_zero] at hst
  obtain ⟨m, rfl⟩ : ∃ m, n = m + 1 := ⟨n - 1, by omega⟩
  simp [Builtin.clear_, run_underlying ht, hv, hz, hst]
/-- The cells of a block that has just been laid. -/
theorem cells_new (w : World) (xs : List Value) (t : TypeId) : ∀ (j : Nat) (u : Value), xs[j]? = some u → (w.alloc (.cells xs.toArray t)).cell? ((⟨w.heap.size, 0, none⟩ : Addr).add j) = some u := by
  intro j u h
  rw [add_plain, Nat.zero_add, World.cell?_alloc_new]
  simpa using h
theorem own_block {w : World} {base e size : Nat} {v : Value} {n : Nat} {xs : List Value} (h : w.ownsRow base e size v n xs) : ∀ k, v.ownBlock = some k → base ≤ k := by
  intro k hk
  obtain ⟨_, ⟨rfl, _⟩ | ⟨g, cap, cur, rfl, hg, _⟩⟩ := h
  · cases hk
  · simp only [Value.ownBlock, Option.some.injEq] at hk; omega
theorem keeps_grown {w w' : World} {row : Option Nat} (h : w.grownBy w' row) : Keeps (fun k => row = some k) w w' :=
  ⟨h.os, h.tape, h.output, h.size, fun k hk hs => h.block k hk (fun e => hs e.symm)⟩
end Go.Proofs.YtckikkkdabpjkaaGreat
