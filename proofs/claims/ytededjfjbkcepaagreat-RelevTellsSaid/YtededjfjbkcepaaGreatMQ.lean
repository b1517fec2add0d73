/-
 Where the document's view stands while it is finished.
-/
import Derived.Test.YtededjfjbkcepaaGreatKitSq
import Derived.Test.YtededjfjbkcepaaGreatRelevRef
import Derived.Test.YtededjfjbkcepaaGreatMM
import Derived.Test.YtededjfjbkcepaaGreatMC
set_option linter.unusedVariables false
set_option linter.unusedSimpArgs false
set_option linter.unnecessarySimpa false
namespace Go.Proofs.YtededjfjbkcepaaGreat
open Go.ChangeShapes Go.WideShapes Go.ChangeAt Go.RowKit Go.Deep
/-- No block of these. -/
def Ap3 (vb : Nat) (fv ov gv : Value) (k : Nat) : Prop := k ≠ vb ∧ fv.ownBlock ≠ some k ∧ ov.ownBlock ≠ some k ∧ gv.ownBlock ≠ some k
structure RefI (W0 W : World) (vb : Nat) (rv lv pv fv ov : Value) (lk : Bool) (gv yv : Value) (R : List Rol) (Lk P : List Str) (Fx Ls : List Stm) (G : List Rol) (Y : List Stm) : Prop where
 K : KF W0 W
 hb : W0.heap.size ≤ vb
 M : W.heap[vb]? = some (.cells #[rv, lv, pv, fv, ov, .slice none 0 0, .bool lk] 67)
 R : RdX rolE W rv R (Ap3 vb fv ov gv)
 L : RowX W lv Lk (Ap3 vb fv ov gv)
 P : RowX W pv P (Ap3 vb fv ov gv)
 Y : RdX stmE W yv Y (Ap3 vb fv ov gv)
 F : OwnK stmE (vb + 1) W fv Fx
 O : OwnK stmE (vb + 1) W ov Ls
 G : OwnK rolE (vb + 1) W gv G
 d3 : ∀ k, fv.ownBlock = some k → ov.ownBlock ≠ some k
section
variable {W0 W W' : World} {vb : Nat} {rv lv pv fv ov : Value} {lk : Bool} {gv yv : Value} {R : List Rol} {Lk P : List Str} {Fx Ls : List Stm} {G : List Rol} {Y : List Stm}
theorem RefI.keeps (h : RefI W0 W vb rv lv pv fv ov lk gv yv R Lk P Fx Ls G Y) (hk : KF W W') : RefI W0 W' vb rv lv pv fv ov lk gv yv R Lk P Fx Ls G Y :=
 ⟨h.K.trans hk, h.hb, (hk.block _ (lt_of_heap h.M) (fun x => x)).trans h.M, h.R.keeps hk (fun _ _ _ x => x), h.L.into hk (fun _ _ _ x => x) (fun _ _ x => x), h.P.into hk (fun _ _ _ x => x) (fun _ _ x => x), h.Y.keeps hk (fun _ _ _ x => x), h.F.keeps hk (fun _ _ x => x), h.O.keeps hk (fun _ _ x => x), h.G.keeps hk (fun _ _ x => x), h.d3⟩
theorem RefI.one {yv' : Value} {Y' : List Stm} (h : RefI W0 W vb rv lv pv fv ov lk gv yv R Lk P Fx Ls G Y) (hy : RdX stmE W yv' Y' (Ap3 vb fv ov gv)) : RefI W0 W vb rv lv pv fv ov lk gv yv' R Lk P Fx Ls G Y' :=
 ⟨h.K, h.hb, h.M, h.R, h.L, h.P, hy, h.F, h.O, h.G, h.d3⟩
theorem RefI.ap (h : RefI W0 W vb rv lv pv fv ov lk gv yv R Lk P Fx Ls G Y) {k : Nat} (hk : W.heap.size ≤ k) : Ap3 vb fv ov gv k := by
 have h1 := lt_of_heap h.M
 exact ⟨by omega, fun e => by have := own_lt h.F k e; omega, fun e => by have := own_lt h.O k e; omega, fun e => by have := own_lt h.G k e; omega⟩
/-- What reads on the way. -/
theorem RefI.move {fv' ov' gv' : Value} (h : RefI W0 W vb rv lv pv fv ov lk gv yv R Lk P Fx Ls G Y) {Q : Nat → Prop} (hk : Keeps Q W W') (hq : ∀ k, k < W.heap.size → Ap3 vb fv ov gv k → ¬ Q k) (hw : ∀ k, k < W0.heap.size → ¬ Q k) (hp : ∀ k, k < W.heap.size → Ap3 vb fv ov gv k → Ap3 vb fv' ov' gv' k) :
 KF W0 W' ∧ RdX rolE W' rv R (Ap3 vb fv' ov' gv') ∧ RowX W' lv Lk (Ap3 vb fv' ov' gv') ∧ RowX W' pv P (Ap3 vb fv' ov' gv') ∧ RdX stmE W' yv Y (Ap3 vb fv' ov' gv') :=
 ⟨h.K.trans_new hk hw, h.R.into hk hq hp, h.L.into hk hq hp, h.P.into hk hq hp, h.Y.into hk hq hp⟩
theorem RefI.prins {pv' : Value} {P' : List Str} (h : RefI W0 W vb rv lv pv fv ov lk gv yv R Lk P Fx Ls G Y) (hk : KF W W') (hp : RowX W' pv' P' (Ap3 vb fv ov gv)) : RefI W0 (W'.setCell ⟨vb, 2, none⟩ pv') vb rv lv pv' fv ov lk gv yv R Lk P' Fx Ls G Y := by
 have h1 := h.keeps hk
 have k2 : Keeps (fun q => q = vb) W' (W'.setCell ⟨vb, 2, none⟩ pv') := Keeps.setCell (S := fun q => q = vb) (Keeps.refl _ _) (p := ⟨vb, 2, none⟩) (fun _ => rfl) _
 obtain ⟨q1, q2, q3, q4, q5⟩ := h1.move (fv' := fv) (ov' := ov) (gv' := gv) k2 (fun k _ a e => a.1 e) (fun k hk e => by have e : k = vb := e; have := h.hb; omega) (fun _ _ a => a)
 exact ⟨q1, h.hb, heap_set h1.M 2 _, q2, q3, hp.into k2 (fun k _ a e => a.1 e) (fun _ _ x => x), q5, h1.F.keeps k2 (fun q hq e => by have e : q = vb := e; omega), h1.O.keeps k2 (fun q hq e => by have e : q = vb := e; omega), h1.G.keeps k2 (fun q hq e => by have e : q = vb := e; omega), h.d3⟩
theorem RefI.link (h : RefI W0 W vb rv lv pv fv ov lk gv yv R Lk P Fx Ls G Y) (lk' : Bool) : RefI W0 (W.setCell ⟨vb, 6, none⟩ (.bool lk')) vb rv lv pv fv ov lk' gv yv R Lk P Fx Ls G Y := by
 have k2 : Keeps (fun q => q = vb) W (W.setCell ⟨vb, 6, none⟩ (.bool lk')) := Keeps.setCell (S := fun q => q = vb) (Keeps.refl _ _) (p := ⟨vb, 6, none⟩) (fun _ => rfl) _
 obtain ⟨q1, q2, q3, q4, q5⟩ := h.move (fv' := fv) (ov' := ov) (gv' := gv) k2 (fun k _ a e => a.1 e) (fun k hk e => by have e : k = vb := e; have := h.hb; omega) (fun _ _ a => a)
 exact ⟨q1, h.hb, heap_set h.M 6 _, q2, q3, q4, q5, h.F.keeps k2 (fun q hq e => by have e : q = vb := e; omega), h.O.keeps k2 (fun q hq e => by have e : q = vb := e; omega), h.G.keeps k2 (fun q hq e => by have e : q = vb := e; omega), h.d3⟩
theorem RefI.sig {gv' : Value} {G' : List Rol} (h : RefI W0 W vb rv lv pv fv ov lk gv yv R Lk P Fx Ls G Y) (hk : Keeps (fun q => gv.ownBlock = some q) W W') (ho : OwnK rolE (vb + 1) W' gv' G') (hf : ∀ k, gv'.ownBlock = some k → gv.ownBlock = some k ∨ W.heap.size ≤ k) : RefI W0 W' vb rv lv pv fv ov lk gv' yv R Lk P Fx Ls G' Y := by
 obtain ⟨q1, q2, q3, q4, q5⟩ := h.move (fv' := fv) (ov' := ov) (gv' := gv') hk (fun k _ a e => a.2.2.2 e) (fun k hk e => by have := own_block h.G k e; have := h.hb; omega) (fun k hk a => ⟨a.1, a.2.1, a.2.2.1, fun e => (hf k e).elim a.2.2.2 (fun z => by omega)⟩)
 exact ⟨q1, h.hb, (hk.block _ (lt_of_heap h.M) (fun e => by have := own_block h.G _ e; omega)).trans h.M, q2, q3, q4, q5, ownsRow_keeps' h.F hk (fun q hq e => apart_of rm_ne h.G h.F q e hq), ownsRow_keeps' h.O hk (fun q hq e => apart_of rm_ne h.G h.O q e hq), ho, h.d3⟩
theorem RefI.fix {fv' : Value} {Fx' : List Stm} (h : RefI W0 W vb rv lv pv fv ov lk gv yv R Lk P Fx Ls G Y) (hk : Keeps (fun q => fv.ownBlock = some q) W W') (ho : OwnK stmE (vb + 1) W' fv' Fx') (hf : ∀ k, fv'.ownBlock = some k → fv.ownBlock = some k ∨ W.heap.size ≤ k) : RefI W0 (W'.setCell ⟨vb, 3, none⟩ fv') vb rv lv pv fv' ov lk gv yv R Lk P Fx' Ls G Y := by
 have k2 : Keeps (fun q => q = vb) W' (W'.setCell ⟨vb, 3, none⟩ fv') := Keeps.setCell (S := fun q => q = vb) (Keeps.refl _ _) (p := ⟨vb, 3, none⟩) (fun _ => rfl) _
 have hM := (hk.block _ (lt_of_heap h.M) (fun e => by have := own_block h.F _ e; omega)).trans h.M
 obtain ⟨q1, q2, q3, q4, q5⟩ := h.move (fv' := fv') (ov' := ov) (gv' := gv) hk (fun k _ a e => a.2.1 e) (fun k hk e => by have := own_block h.F k e; have := h.hb; omega) (fun k hk a => ⟨a.1, fun e => (hf k e).elim a.2.1 (fun z => by omega), a.2.2.1, a.2.2.2⟩)
 exact ⟨q1.trans_new k2 (fun k hk e => by have e : k = vb := e; have := h.hb; omega), h.hb, heap_set hM 3 _, q2.into k2 (fun k _ a e => a.1 e) (fun _ _ x => x), q3.into k2 (fun k _ a e => a.1 e) (fun _ _ x => x), q4.into k2 (fun k _ a e => a.1 e) (fun _ _ x => x), q5.into k2 (fun k _ a e => a.1 e) (fun _ _ x => x), ho.keeps k2 (fun q hq e => by have e : q = vb := e; omega),
  OwnK.keeps (E := stmE) (ownsRow_keeps' h.O hk (fun q hq e => h.d3 q e hq)) k2 (fun q hq e => by have e : q = vb := e; omega), OwnK.keeps (E := rolE) (ownsRow_keeps' h.G hk (fun q hq e => apart_of (Ne.symm rm_ne) h.F h.G q e hq)) k2 (fun q hq e => by have e : q = vb := e; omega), fun k e e2 => (hf k e).elim (fun z => h.d3 k z e2) (fun z => by have := own_lt h.O k e2; omega)⟩
theorem RefI.loose {ov' : Value} {Ls' : List Stm} (h : RefI W0 W vb rv lv pv fv ov lk gv yv R Lk P Fx Ls G Y) (hk : Keeps (fun q => ov.ownBlock = some q) W W') (ho : OwnK stmE (vb + 1) W' ov' Ls') (hf : ∀ k, ov'.ownBlock = some k → ov.ownBlock = some k ∨ W.heap.size ≤ k) : RefI W0 (W'.setCell ⟨vb, 4, none⟩ ov') vb rv lv pv fv ov' lk gv yv R Lk P Fx Ls' G Y := by
 have k2 : Keeps (fun q => q = vb) W' (W'.setCell ⟨vb, 4, none⟩ ov') := Keeps.setCell (S := fun q => q = vb) (Keeps.refl _ _) (p := ⟨vb, 4, none⟩) (fun _ => rfl) _
 have hM := (hk.block _ (lt_of_heap h.M) (fun e => by have := own_block h.O _ e; omega)).trans h.M
 obtain ⟨q1, q2, q3, q4, q5⟩ := h.move (fv' := fv) (ov' := ov') (gv' := gv) hk (fun k _ a e => a.2.2.1 e) (fun k hk e => by have := own_block h.O k e; have := h.hb; omega) (fun k hk a => ⟨a.1, a.2.1, fun e => (hf k e).elim a.2.2.1 (fun z => by omega), a.2.2.2⟩)
 exact ⟨q1.trans_new k2 (fun k hk e => by have e : k = vb := e; have := h.hb; omega), h.hb, heap_set hM 4 _, q2.into k2 (fun k _ a e => a.1 e) (fun _ _ x => x), q3.into k2 (fun k _ a e => a.1 e) (fun _ _ x => x), q4.into k2 (fun k _ a e => a.1 e) (fun _ _ x => x), q5.into k2 (fun k _ a e => a.1 e) (fun _ _ x => x),
  OwnK.keeps (E := stmE) (ownsRow_keeps' h.F hk (fun q hq e => h.d3 q hq e)) k2 (fun q hq e => by have e : q = vb := e; omega), ho.keeps k2 (fun q hq e => by have e : q = vb := e; omega), OwnK.keeps (E := rolE) (ownsRow_keeps' h.G hk (fun q hq e => apart_of (Ne.symm rm_ne) h.O h.G q e hq)) k2 (fun q hq e => by have e : q = vb := e; omega), fun k e e2 => (hf k e2).elim (fun z => h.d3 k e z) (fun z => by have := own_lt h.F k e; omega)⟩
end
end Go.Proofs.YtededjfjbkcepaaGreat
/-
 What of a policy a query hangs on: the document's.
-/
set_option linter.unusedVariables false
set_option linter.unusedSimpArgs false
set_option linter.unnecessarySimpa false
namespace Go.Proofs.YtededjfjbkcepaaGreat
open Go.ChangeShapes Go.WideShapes Go.ChangeAt Go.RowKit Go.Deep
/-- Where the document's view stands while its rounds go. -/
structure WayI (W0 W : World) (vb : Nat) (rv lv yv : Value) (R : List Rol) (Lk : List Str) (Y : List Stm) : Prop where
 K : KF W0 W
 hb : W0.heap.size ≤ vb
 M : W.heap[vb]? = some (.cells #[rv, lv, .slice none 0 0, .slice none 0 0, .slice none 0 0, .slice none 0 0, .bool false] 67)
 R : RdX rolE W rv R (fun k => k ≠ vb)
 L : RowX W lv Lk (fun k => k ≠ vb)
 Y : RdX stmE W yv Y (fun k => k ≠ vb)
theorem RowX.keeps {w w' : World} {v : Value} {l : List Str} {P : Nat → Prop} (h : RowX w v l P) (hk : KF w w') : RowX w' v l P := h.into hk (fun _ _ _ x => x) (fun _ _ x => x)
theorem rowX_nil (w : World) (P : Nat → Prop) : RowX w (.slice none 0 0) [] P := ⟨⟨none, 0, rfl, Nat.le_refl _, fun h => absurd h (by simp)⟩, fun k hk => by simp [Value.ownBlock] at hk⟩
theorem WayI.keeps {W0 W W' : World} {vb : Nat} {rv lv yv : Value} {R : List Rol} {Lk : List Str} {Y : List Stm} (h : WayI W0 W vb rv lv yv R Lk Y) (hk : KF W W') : WayI W0 W' vb rv lv yv R Lk Y :=
 ⟨h.K.trans hk, h.hb, (hk.block _ (lt_of_heap h.M) (fun x => x)).trans h.M, h.R.keeps hk (fun _ _ _ x => x), h.L.keeps hk, h.Y.keeps hk (fun _ _ _ x => x)⟩
theorem WayI.one {W0 W : World} {vb : Nat} {rv lv yv yv' : Value} {R : List Rol} {Lk : List Str} {Y Y' : List Stm} (h : WayI W0 W vb rv lv yv R Lk Y) (hy : RdX stmE W yv' Y' (fun k => k ≠ vb)) : WayI W0 W vb rv lv yv' R Lk Y' := ⟨h.K, h.hb, h.M, h.R, h.L, hy⟩
theorem WayI.roles {W0 W W' : World} {vb : Nat} {rv rv' lv yv : Value} {R R' : List Rol} {Lk : List Str} {Y : List Stm} (h : WayI W0 W vb rv lv yv R Lk Y) (hk : KF W W') (ho : OwnK rolE W.heap.size W' rv' R') : WayI W0 (W'.setCell ⟨vb, 0, none⟩ rv') vb rv' lv yv R' Lk Y := by
 have k2 : Keeps (fun q => q = vb) W' (W'.setCell ⟨vb, 0, none⟩ rv') := Keeps.setCell (S := fun q => q = vb) (Keeps.refl _ _) (p := ⟨vb, 0, none⟩) (fun _ => rfl) _
 have h2 := h.keeps hk
 have hv := lt_of_heap h.M
 exact ⟨h2.K.trans_new k2 (fun q hq e => by have e : q = vb := e; have := h.hb; omega), h.hb, heap_set h2.M 0 _, (ho.rdX (P := fun k => k ≠ vb) (fun k hk _ => by show k ≠ vb; omega)).into k2 (fun q _ hp e => hp e) (fun _ _ x => x), h2.L.into k2 (fun q _ hp e => hp e) (fun _ _ x => x), h2.Y.into k2 (fun q _ hp e => hp e) (fun _ _ x => x)⟩
theorem WayI.links {W0 W W' : World} {vb : Nat} {rv lv lv' yv : Value} {R : List Rol} {Lk Lk' : List Str} {Y : List Stm} (h : WayI W0 W vb rv lv yv R Lk Y) (hk : KF W W') (ho : RowX W' lv' Lk' (fun k => k ≠ vb)) : WayI W0 (W'.setCell ⟨vb, 1, none⟩ lv') vb rv lv' yv R Lk' Y := by
 have k2 : Keeps (fun q => q = vb) W' (W'.setCell ⟨vb, 1, none⟩ lv') := Keeps.setCell (S := fun q => q = vb) (Keeps.refl _ _) (p := ⟨vb, 1, none⟩) (fun _ => rfl) _
 have h2 := h.keeps hk
 exact ⟨h2.K.trans_new k2 (fun q hq e => by have e : q = vb := e; have := h.hb; omega), h.hb, heap_set h2.M 1 _, h2.R.into k2 (fun q _ hp e => hp e) (fun _ _ x => x), ho.into k2 (fun q _ hp e => hp e) (fun _ _ x => x), h2.Y.into k2 (fun q _ hp e => hp e) (fun _ _ x => x)⟩
theorem put_pos (l : List Str) (s : Str) : 0 < (putS l s).length := List.length_pos_of_mem ((put_mem l s s).2 (.inr rfl))
theorem fresh_row {w w' : World} {v v' : Value} {l l' : List Str} {P : Nat → Prop} (h : RowX w v l P) (hr : ReadsS w' v' l') (hf : Fresh w v v') (h0 : 0 < l'.length) (hn : ∀ k, w.heap.size ≤ k → P k) : RowX w' v' l' P := by
 refine ⟨hr, fun k hk2 => ⟨?_, ?_⟩⟩
 ·obtain ⟨ao, cap, rfl, hle, hrd⟩ := hr
  obtain ⟨g, off, rfl, hg, _⟩ := hrd h0
  simp only [Value.ownBlock, Option.map_some, Option.some.injEq] at hk2
  omega
 ·rcases hf k hk2 with q | q
  ·exact (h.2 k q).2
  ·exact hn k q
/-- Sorted twice. -/
theorem sort_twice (R : List Rol) (a b : Rol) : sortO rolLt (sortO rolLt (R ++ [a]) ++ [b]) = sortO rolLt (R ++ [a, b]) :=
 sortO_eq rolO (sortO_rises rolO _) (fun x => by simp only [sortO_mem, List.mem_append, List.mem_cons, List.not_mem_nil, or_false]; exact or_assoc)
theorem more2 {y : Stm} (h : y.2.1 = 2) : moreS y = [y.2.2.2.1] ∧ viaS y = [] := by
 unfold moreS viaS
 rw [h]
 exact ⟨rfl, rfl⟩
theorem more3 {y : Stm} (h : y.2.1 = 3) : moreS y = [y.2.2.2.1] ∧ viaS y = [y.2.2.2.2.2] := by
 unfold moreS viaS
 rw [h]
 exact ⟨rfl, rfl⟩
theorem more4 {y : Stm} (h : y.2.1 = 4) : moreS y = [y.2.2.2.1, y.2.2.2.2.1] ∧ viaS y = [] := by
 unfold moreS viaS
 rw [h]
 exact ⟨rfl, rfl⟩
theorem addL_none {Lk : List Str} (hs : Lk.Pairwise (· < ·)) {y : Stm} (h : viaS y = []) : addL Lk y = Lk := by
 unfold addL
 rw [h, List.append_nil]
 exact tab_eq hs (fun _ => Iff.rfl)
theorem tabL_nil : tabL [] = [] := tab_eq List.Pairwise.nil (fun _ => Iff.rfl)
theorem put_tabL (X : List Str) (s : Str) : putS (tabL X) s = tabL (X ++ [s]) := (tab_eq (put_rises (tab_rises X) s) (fun x => by rw [put_mem, tab_mem, List.mem_append, List.mem_singleton])).symm
def accW (R : List Rol) (F : List Stm) : List Str := R.map (·.1) ++ whoF F
def accH (B : Rol) (F : List Stm) : List Rol := B :: sigF F
def foli (g h R : List Rol) (L : List Str) (st : List Stm) (i : Nat) : List Stm := List.filter (folB g h R L) (st.take i)
theorem foli_zero (g h R : List Rol) (L : List Str) (st : List Stm) : foli g h R L st 0 = [] := rfl
theorem accW_nil (R : List Rol) : accW R [] = R.map (·.1) := List.append_nil _
theorem accH_nil (B : Rol) : accH B [] = [B] := rfl
theorem foli_yes {g h R : List Rol} {L : List Str} {st : List Stm} {i : Nat} {y : Stm} (hy : st[i]? = some y) (hf : folB g h R L y = true) : foli g h R L st (i + 1) = foli g h R L st i ++ [y] := by
 unfold foli
 rw [List.take_add_one, hy, List.filter_append]
 simp [hf]
theorem foli_no {g h R : List Rol} {L : List Str} {st : List Stm} {i : Nat} {y : Stm} (hy : st[i]? = some y) (hf : folB g h R L y = false) : foli g h R L st (i + 1) = foli g h R L st i := by
 unfold foli
 rw [List.take_add_one, hy, List.filter_append]
 simp [hf]
theorem foli_len (g h R : List Rol) (L : List Str) (st : List Stm) (i : Nat) : (foli g h R L st i).length ≤ st.length := Nat.le_trans (List.length_filter_le _ _) (by rw [List.length_take]; omega)
theorem fixF_app {sh : List Rol} {F : List Stm} {y : Stm} (h : y.1 ∈ sh) : fixF sh (F ++ [y]) = fixF sh F ++ [y] ∧ looF sh (F ++ [y]) = looF sh F := by
 unfold fixF looF
 rw [List.filter_append, List.filter_append]
 simp [h]
theorem looF_app {sh : List Rol} {F : List Stm} {y : Stm} (h : y.1 ∉ sh) : looF sh (F ++ [y]) = looF sh F ++ [y] ∧ fixF sh (F ++ [y]) = fixF sh F := by
 unfold fixF looF
 rw [List.filter_append, List.filter_append]
 simp [h]
theorem lkF_app (F : List Stm) (y : Stm) : lkF (F ++ [y]) = (lkF F || decide (y.2.1 = 3)) := by
 unfold lkF
 rw [List.any_append]
 simp
theorem accW_yes {R : List Rol} {F : List Stm} {y : Stm} (h : y.2.1 = 1) : accW R (F ++ [y]) = accW R F ++ [y.2.2.1] := by
 unfold accW whoF
 rw [List.flatMap_append, ← List.append_assoc]
 simp [h]
theorem accW_no {R : List Rol} {F : List Stm} {y : Stm} (h : y.2.1 ≠ 1) : accW R (F ++ [y]) = accW R F := by
 unfold accW whoF
 rw [List.flatMap_append]
 simp [h]
theorem accH_yes {B : Rol} {F : List Stm} {y : Stm} (h : y.2.1 = 3 ∨ y.2.1 = 4) : accH B (F ++ [y]) = accH B F ++ [y.2.2.2.1] := by
 unfold accH sigF
 rw [List.flatMap_append]
 simp [h]
theorem accH_no {B : Rol} {F : List Stm} {y : Stm} (h : ¬(y.2.1 = 3 ∨ y.2.1 = 4)) : accH B (F ++ [y]) = accH B F := by
 unfold accH sigF
 rw [List.flatMap_append]
 simp [h]
theorem len_fixF (sh : List Rol) (F : List Stm) : (fixF sh F).length ≤ F.length := List.length_filter_le _ _
theorem len_looF (sh : List Rol) (F : List Stm) : (looF sh F).length ≤ F.length := List.length_filter_le _ _
theorem len_accW (R : List Rol) (F : List Stm) : (accW R F).length ≤ R.length + F.length := by
 unfold accW
 have : (whoF F).length ≤ F.length := flat1_len (fun x => by split <;> simp) F
 rw [List.length_append, List.length_map]
 omega
theorem len_accH (B : Rol) (F : List Stm) : (accH B F).length ≤ F.length + 1 := by
 unfold accH
 have : (sigF F).length ≤ F.length := flat1_len (fun x => by split <;> simp) F
 rw [List.length_cons]
 omega
/-- The empty view's cells are no texts. -/
theorem no_text {w : World} {b : Nat} (hb : w.heap[b]? = some (.cells #[.slice none 0 0, .slice none 0 0, .slice none 0 0, .slice none 0 0, .slice none 0 0, .slice none 0 0, .bool false] 67)) (i : Nat) (s : ByteArray) : w.cell? ⟨b, i, none⟩ ≠ some (.string s) := fun h => by
 rw [cell_of_heap hb] at h
 match i, h with
 | 0, h => simp at h
 | 1, h => simp at h
 | 2, h => simp at h
 | 3, h => simp at h
 | 4, h => simp at h
 | 5, h => simp at h
 | 6, h => simp at h
 | i + 7, h => simp at h
theorem rdk_off {w w' : World} {v : Value} {R : List Rol} {b : Nat} (h : RdK rolE w v R) (hb : w.heap[b]? = some (.cells #[.slice none 0 0, .slice none 0 0, .slice none 0 0, .slice none 0 0, .slice none 0 0, .slice none 0 0, .bool false] 67)) (hk : Keeps (fun q => q = b) w w') : RdK rolE w' v R := by
 obtain ⟨ao, cap, rfl, hle, hr⟩ := h
 refine ⟨ao, cap, rfl, hle, fun h0 => ?_⟩
 obtain ⟨g, off, q1, q2, q3⟩ := hr h0
 have hg : g ≠ b := fun e => by
  subst e
  obtain ⟨x, hx⟩ : ∃ x, R[0]? = some x := ⟨_, List.getElem?_eq_getElem h0⟩
  exact no_text hb _ _ (q3 0 x hx 0 _ rfl)
 exact ⟨g, off, q1, Nat.lt_of_lt_of_le q2 hk.size, fun j x hj i u hu => (hk.cell (p := ⟨g, off + j * rolE.k + i, none⟩) q2 hg).trans (q3 j x hj i u hu)⟩
theorem reads_off {w w' : World} {v : Value} {R : List Str} {b : Nat} (h : ReadsS w v R) (hb : w.heap[b]? = some (.cells #[.slice none 0 0, .slice none 0 0, .slice none 0 0, .slice none 0 0, .slice none 0 0, .slice none 0 0, .bool false] 67)) (hk : Keeps (fun q => q = b) w w') : ReadsS w' v R := by
 obtain ⟨ao, cap, rfl, hle, hr⟩ := h
 refine ⟨ao, cap, rfl, hle, fun h0 => ?_⟩
 obtain ⟨g, off, q1, q2, q3⟩ := hr h0
 have hg : g ≠ b := fun e => by
  subst e
  obtain ⟨x, hx⟩ : ∃ x, R[0]? = some x := ⟨_, List.getElem?_eq_getElem h0⟩
  exact no_text hb _ _ (q3 0 x hx)
 exact ⟨g, off, q1, Nat.lt_of_lt_of_le q2 hk.size, fun j x hj => (hk.cell (p := ⟨g, off + j, none⟩) q2 hg).trans (q3 j x hj)⟩
theorem put_tab {l : List Str} (h : l.Pairwise (· < ·)) (s : Str) : putS l s = tabL (l ++ [s]) := (tab_eq (put_rises h s) (fun x => by rw [put_mem, List.mem_append, List.mem_singleton])).symm
set_option maxRecDepth 100000
set_option maxHeartbeats 6400000
theorem wof_spec {W : World} {ao bo co jo : Option Addr} {an ac bn bc cn cc jn jc : Nat} {qv : Value} {p : Pol} {P : Nat → Prop} (h : PolH W (.slice ao an ac) (.slice bo bn bc) (.slice co cn cc) p P) (h1 : p.1.length ≤ 60) (h2 : p.2.1.length ≤ 60) (h3 : p.2.2.1.length ≤ 60) (hkd : ∀ x ∈ p.1, 1 ≤ x.2.1 ∧ x.2.1 ≤ 4) (q : Qry) :
 Calls Tryz.prog 40 #[.agg #[.slice ao an ac, .slice bo bn bc, .slice co cn cc, .slice jo jn jc], qryV q qv] W fun e W' => ∃ rv lv pv fv ov gv R Lk, e = .returned (.agg #[rv, lv, pv, fv, ov, gv, .bool (linkV p.2.1 p.2.2.1 p.1 R Lk)]) ∧ Hid (KF W W' ∧ OnWay p.2.1 p.2.2.1 p.1 q.2.1 q.2.2.1 R Lk ∧ Shut2 p.2.1 p.2.2.1 p.1 R Lk ∧ VwR W' rv lv pv fv ov gv R Lk (tabL (whosV p.2.1 p.2.2.1 p.1 R Lk)) (fixV p.2.1 p.2.2.1 p.1 R Lk) (looseV p.2.1 p.2.2.1 p.1 R Lk) (sortO rolLt (sigV p.2.1 p.2.2.1 p.1 q.2.2.1 R Lk))) := by
 have HP0 := Lib.hid h.1.1
 have HP1 := Lib.hid h.2.1.1
 have HP2 := Lib.hid h.2.2.1
 obtain ⟨st, gr, sh, al⟩ := p
 simp only at HP0 HP1 HP2 h1 h2 h3 hkd ⊢
 have HKD := Lib.hid hkd
 obtain ⟨nS, hnS⟩ : ∃ n, st.length = n := ⟨_, rfl⟩
 have HNS := Lib.hid hnS
 have han : an = nS := by
  obtain ⟨_, _, e, _⟩ := id HP0.out.1
  simp only [Value.slice.injEq] at e
  rw [← hnS]
  exact e.2.1
 have hca : nS ≤ ac := by
  obtain ⟨_, _, e, hle, _⟩ := id HP0.out.1
  simp only [Value.slice.injEq] at e
  rw [hnS] at hle
  omega
 subst han
 rw [hnS] at h1
 clear h hkd hnS
 obtain ⟨qk, ⟨qa1, qa2⟩, ⟨qb1, qb2⟩, qw⟩ := q
 unfold qryV
 simp only
 have halWA := (MapKept.heap_alloc W (bP ao an ac bo bn bc co cn cc jo jn jc)).1
 obtain ⟨WA, hWA⟩ : ∃ q, W.alloc (bP ao an ac bo bn bc co cn cc jo jn jc) = q := ⟨_, rfl⟩
 have hkWA : KF W WA := by rw [← hWA]; exact (Keeps.refl _ _).alloc _
 rw [hWA] at halWA
 obtain ⟨bWA, hbWA⟩ : ∃ q, W.heap.size = q := ⟨_, rfl⟩
 rw [hbWA] at halWA
 have halWB := (MapKept.heap_alloc WA (.cells #[.int .i64 qk, .string ⟨qa1.toArray⟩, .string ⟨qa2.toArray⟩, .string ⟨qb1.toArray⟩, .string ⟨qb2.toArray⟩, qv] 31)).1
 obtain ⟨WB, hWB⟩ : ∃ q, WA.alloc (.cells #[.int .i64 qk, .string ⟨qa1.toArray⟩, .string ⟨qa2.toArray⟩, .string ⟨qb1.toArray⟩, .string ⟨qb2.toArray⟩, qv] 31) = q := ⟨_, rfl⟩
 have hkWB : KF WA WB := by rw [← hWB]; exact (Keeps.refl _ _).alloc _
 rw [hWB] at halWB
 obtain ⟨bWB, hbWB⟩ : ∃ q, WA.heap.size = q := ⟨_, rfl⟩
 rw [hbWB] at halWB
 have halWC := (MapKept.heap_alloc WB (.cells #[.slice none 0 0, .slice none 0 0, .slice none 0 0, .slice none 0 0, .slice none 0 0, .slice none 0 0, .bool false] 67)).1
 obtain ⟨WC, hWC⟩ : ∃ q, WB.alloc (.cells #[.slice none 0 0, .slice none 0 0, .slice none 0 0, .slice none 0 0, .slice none 0 0, .slice none 0 0, .bool false] 67) = q := ⟨_, rfl⟩
 have hkWC : KF WB WC := by rw [← hWC]; exact (Keeps.refl _ _).alloc _
 rw [hWC] at halWC
 obtain ⟨bWC, hbWC⟩ : ∃ q, WB.heap.size = q := ⟨_, rfl⟩
 rw [hbWC] at halWC
 obtain ⟨WD, hWD⟩ : ∃ q, WC.alloc (.cells #[.string ⟨qa1.toArray⟩, .string ⟨qa2.toArray⟩, .string ⟨qb1.toArray⟩, .string ⟨qb2.toArray⟩] 28) = q := ⟨_, rfl⟩
 have hkD : KF WC WD := by rw [← hWD]; exact (Keeps.refl _ _).alloc _
 have hsr : SrcK rolE WD (.slice (some ⟨WC.heap.size, 0, none⟩) 2 2) [(qa1, qa2), (qb1, qb2)] := by
  have q := lit_srcK (E := rolE) WC [(qa1, qa2), (qb1, qb2)] #[.string ⟨qa1.toArray⟩, .string ⟨qa2.toArray⟩, .string ⟨qb1.toArray⟩, .string ⟨qb2.toArray⟩] rfl
  rw [← hWD]
  exact q
 have HSO := Lib.hid (rsortr_spec (rdk_r.1 hsr.1) (by simp))
 obtain ⟨lb, hlb⟩ : ∃ q, WC.heap.size = q := ⟨_, rfl⟩
 rw [hlb] at HSO
 have HPB := Lib.hid (((hkWB.trans (hkWC.trans hkD)).block _ (lt_of_heap halWA) (fun x => x)).trans halWA)
 have HQB := Lib.hid (((hkWC.trans hkD).block _ (lt_of_heap halWB) (fun x => x)).trans halWB)
 have HVB := Lib.hid ((hkD.block _ (lt_of_heap halWC) (fun x => x)).trans halWC)
 have HKD0 := Lib.hid (hkWA.trans (hkWB.trans (hkWC.trans hkD)))
 have HZV : Hid (W.heap.size ≤ bWC) := by have := hkWA.size; have := hkWB.size; show _ ≤ _; omega
 obtain ⟨x0, y0, x1, y1, x2, y2, x3, y3, x4, y4, x5, y5⟩ := cf6 ((hkWC.block _ (lt_of_heap halWB) (fun x => x)).trans halWB)
 clear y0 y1 y2 y3 y4 y5 hsr halWA halWB halWC hkWA hkWB hkWC hkD
 go_enter Tryz.func40, Tryz.ntmps40
 go_upto_region 1 with fail
 (try simp only [hWA, hWB, hWC, hbWA, hbWB, hbWC])
 go_wp2_with fail
 (try simp only [hWD, hlb])
 refine HSO.out.mono ?_
 rintro e w0 ⟨rv, rfl, hk⟩
 have HK0 := Lib.hid (HKD0.out.trans hk.out.1)
 have HPB0 := Lib.hid ((hk.out.1.block _ (lt_of_heap HPB.out) (fun x => x)).trans HPB.out)
 have HQB0 := Lib.hid ((hk.out.1.block _ (lt_of_heap HQB.out) (fun x => x)).trans HQB.out)
 have HVB0 := Lib.hid ((hk.out.1.block _ (lt_of_heap HVB.out) (fun x => x)).trans HVB.out)
 have HR0 := Lib.hid hk.out.2.src
 have HRL : Hid (∀ k, rv.ownBlock = some k → k < w0.heap.size) := fun k hk2 => own_lt hk.out.2 k hk2
 obtain ⟨ro, rc, hrv, _⟩ := id hk.out.2.reads
 obtain ⟨rn, hrn⟩ : ∃ n, (sortO rolLt [(qa1, qa2), (qb1, qb2)]).length = n := ⟨_, rfl⟩
 rw [hrn] at hrv
 subst hrv
 clear HSO HPB HQB HVB HKD0 hk hrn hWA hWB hWC hWD hbWA hbWB hbWC hlb x0 x1 x2 x3 x4 x5
 have hal := (MapKept.heap_alloc w0 (.cells #[.slice ro rn rc, .slice none 0 0, .slice none 0 0, .slice none 0 0, .slice none 0 0, .slice none 0 0, .bool false] 67)).1
 have hka : KF w0 (w0.alloc (.cells #[.slice ro rn rc, .slice none 0 0, .slice none 0 0, .slice none 0 0, .slice none 0 0, .slice none 0 0, .bool false] 67)) := (Keeps.refl _ _).alloc _
 obtain ⟨vb, hvb⟩ : ∃ q, w0.heap.size = q := ⟨_, rfl⟩
 rw [hvb] at hal
 have HI0 : Hid (WayI w0 (w0.alloc (.cells #[.slice ro rn rc, .slice none 0 0, .slice none 0 0, .slice none 0 0, .slice none 0 0, .slice none 0 0, .bool false] 67)) vb (.slice ro rn rc) (.slice none 0 0) (.slice none 0 0) (sortO rolLt [(qa1, qa2), (qb1, qb2)]) [] []) :=
  ⟨hka, by omega, hal, ⟨HR0.out.keeps hka, fun k hk2 => ⟨Nat.lt_of_lt_of_le (HRL.out k hk2) hka.size, by have := HRL.out k hk2; show k ≠ vb; omega⟩⟩, rowX_nil _ _, rdX_nil _ _ _⟩
 go_upto_region 2 with fail
 (try simp only [hvb])
 clear hal hka hvb HR0 HRL
 generalize w0.alloc (.cells #[.slice ro rn rc, .slice none 0 0, .slice none 0 0, .slice none 0 0, .slice none 0 0, .slice none 0 0, .bool false] 67) = w1 at *
 have HS0 : Hid (SrcK stmE w0 (.slice ao an ac) st) := HP0.out.keeps HK0.out
 have HG0 : Hid (SrcK rolE w0 (.slice bo bn bc) gr) := HP1.out.keeps HK0.out
 have HH0 : Hid (SrcK rolE w0 (.slice co cn cc) sh) := HP2.out.keeps HK0.out
 clear HP0 HP1 HP2
 go_wp2_with fail
 go_loopg [6] 200 (fun g t wx => ∃ (n : Nat) (ro lo : Option Addr) (rn rc ln lc : Nat) (R : List Rol) (Lk : List Str), n ≤ 200 ∧ g = 200 - n ∧ t = .int .i64 n ∧ Hid (WayI w0 wx vb (.slice ro rn rc) (.slice lo ln lc) (.slice none 0 0) R Lk [] ∧ refRounds gr sh st n (sortO rolLt [(qa1, qa2), (qb1, qb2)], []) = (R, Lk) ∧ OnWay gr sh st (qa1, qa2) (qb1, qb2) R Lk))
 case atStart => exact ⟨0, ro, none, rn, rc, 0, 0, _, [], by omega, rfl, rfl, HI0.out, rfl, OnWay.begin⟩
 case round =>
  clear HI0
  obtain ⟨n, ro, lo, rn, rc, ln, lc, R, Lk, hn, rfl, rfl, HI⟩ := hrel
  by_cases hlt : n < 200
  ·skip
   have hnI : (n : Int) < 200 := by omega
   have hwn : IntKind.i64.wrap ((n : Int) + 1) = (n : Int) + 1 := IntWalk.i64_in _ (by omega)
   have HRD := Lib.hid HI.out.2.1
   have HJ0 : Hid (WayI w0 wr vb (.slice ro rn rc) (.slice lo ln lc) (.slice none 0 0) R Lk [] ∧ (st.take 0).foldl (refStep gr sh) (R, Lk) = (R, Lk) ∧ OnWay gr sh st (qa1, qa2) (qb1, qb2) R Lk) := ⟨HI.out.1, rfl, HI.out.2.2⟩
   have HPW := Lib.hid ((HI.out.1.K.block _ (lt_of_heap HPB0.out) (fun x => x)).trans HPB0.out)
   obtain ⟨z0, g0, z1, g1, z2, g2, z3, g3⟩ := cf4 HPW.out
   clear g0 g1 g2 g3 z1 z2 z3 HPW HI
   obtain ⟨Rn, hRn⟩ : ∃ x, R = x := ⟨_, rfl⟩
   obtain ⟨Ln, hLn⟩ : ∃ x, Lk = x := ⟨_, rfl⟩
   rw [hRn, hLn] at HRD HJ0
   clear hRn hLn
   go_wp2_with fail
   go_loopg [30] an (fun g t wx => ∃ (i : Nat) (ro lo : Option Addr) (rn rc ln lc : Nat) (R : List Rol) (Lk : List Str), i ≤ an ∧ g = an - i ∧ t = .int .i64 i ∧ Hid (WayI w0 wx vb (.slice ro rn rc) (.slice lo ln lc) (.slice none 0 0) R Lk [] ∧ (st.take i).foldl (refStep gr sh) (Rn, Ln) = (R, Lk) ∧ OnWay gr sh st (qa1, qa2) (qb1, qb2) R Lk))
   case atStart => exact ⟨0, ro, lo, rn, rc, ln, lc, Rn, Ln, Nat.zero_le _, rfl, rfl, HJ0.out⟩
   case round =>
    clear HJ0 z0
    obtain ⟨i, ro, lo, rn, rc, ln, lc, R, Lk, hi, rfl, rfl, HI⟩ := hrel
    by_cases hli : i < an
    ·skip
     have hiI : (i : Int) < (an : Int) := by omega
     have hwi : IntKind.i64.wrap ((i : Int) + 1) = (i : Int) + 1 := IntWalk.i64_in _ (by omega)
     have hicap : i < ac := by omega
     obtain ⟨y, hy⟩ : ∃ y, st[i]? = some y := ⟨_, List.getElem?_eq_getElem (by rw [HNS.out]; exact hli)⟩
     obtain ⟨aoz, cpz, ez, hez, hrz⟩ := id (HS0.out.keeps HI.out.1.K).1
     obtain ⟨g, off, hao, hg, hcc⟩ := hrz (by rw [HNS.out]; omega)
     simp only [Value.slice.injEq] at ez
     obtain ⟨rfl, hzz, rfl⟩ := ez
     subst hao
     have hc := hcc i y hy
     have hym : y ∈ st := List.mem_of_getElem? hy
     have HY := Lib.hid hy
     have HYM := Lib.hid hym
     have hkind := HKD.out y hym
     obtain ⟨⟨yh1, yh2⟩, yk, yo, ⟨ya1, ya2⟩, ⟨yb1, yb2⟩, yi⟩ := y
     simp only at hkind
     clear hcc hrz hez hzz hy hym
     obtain ⟨c0, c1, c2, c3, c4, c5, c6, c7, c8⟩ := n9 hc
     have hka : KF wr (wr.alloc (bM yk yh1 yh2 yo ya1 ya2 yb1 yb2 yi)) := (Keeps.refl _ _).alloc _
     obtain ⟨b, hb⟩ : ∃ b, wr.heap.size = b := ⟨_, rfl⟩
     have hvl : vb < b := by have := lt_of_heap HI.out.1.M; omega
     have HB : Hid (WayI w0 (wr.alloc (bM yk yh1 yh2 yo ya1 ya2 yb1 yb2 yi)) vb (.slice ro rn rc) (.slice lo ln lc) (.slice (some ⟨b, 0, none⟩) 1 1) R Lk [((yh1, yh2), yk, yo, (ya1, ya2), (yb1, yb2), yi)]) := by
      refine (HI.out.1.keeps hka).one ⟨by rw [← hb]; exact one_srcK (E := stmE) wr ((yh1, yh2), yk, yo, (ya1, ya2), (yb1, yb2), yi) #[.int .i64 yk, .string ⟨yh1.toArray⟩, .string ⟨yh2.toArray⟩, .string ⟨yo.toArray⟩, .string ⟨ya1.toArray⟩, .string ⟨ya2.toArray⟩, .string ⟨yb1.toArray⟩, .string ⟨yb2.toArray⟩, .string ⟨yi.toArray⟩] rfl, fun k hk => ?_⟩
      simp only [Value.ownBlock, Option.map_some, Option.some.injEq] at hk
      have h7 := lt_of_heap (MapKept.heap_alloc wr (bM yk yh1 yh2 yo ya1 ya2 yb1 yb2 yi)).1
      exact ⟨by omega, by show k ≠ vb; omega⟩
     have hlens := HI.out.2.2.lens
     have hst := HNS.out
     have hR : R.length ≤ 200 := by omega
     have hL : Lk.length ≤ 100 := by omega
     have HFO := Lib.hid (fun (w : World) (hk : KF (wr.alloc (bM yk yh1 yh2 yo ya1 ya2 yb1 yb2 yi)) w) => wfollowed_spec (v0 := .slice (some ⟨g, off, none⟩) an ac) (v3 := .slice jo jn jc) (pv := .slice none 0 0) (fv := .slice none 0 0) (ov := .slice none 0 0) (gv := .slice none 0 0) (lk := false) (HB.out.R.1.1.keeps hk) (HB.out.L.1.keeps hk) ((HG0.out.keeps HB.out.K).1.keeps hk) ((HH0.out.keeps HB.out.K).1.keeps hk) (by omega) (by omega) (by omega) (by omega) ((yh1, yh2), yk, yo, (ya1, ya2), (yb1, yb2), yi))
     obtain ⟨fb, hfb⟩ : ∃ x, folB gr sh R Lk ((yh1, yh2), yk, yo, (ya1, ya2), (yb1, yb2), yi) = x := ⟨_, rfl⟩
     rw [hfb] at HFO
     have HFB := Lib.hid hfb
     have HAC := Lib.hid HI.out.2.1
     have HWY := Lib.hid HI.out.2.2
     have HPW := Lib.hid (((HB.out.K).block _ (lt_of_heap HPB0.out) (fun x => x)).trans HPB0.out)
     have HNX : Hid ((st.take (i + 1)).foldl (refStep gr sh) (Rn, Ln) = refStep gr sh (R, Lk) ((yh1, yh2), yk, yo, (ya1, ya2), (yb1, yb2), yi)) := by
      show _ = _
      rw [List.take_add_one, HY.out, List.foldl_append, HAC.out]
      rfl
     go_upto_region 8 with fail
     (try simp only [hb])
     clear hka hb HI hc hg hlens hst hfb c0 c1 c2 c3 c4 c5 c6 c7 c8
     generalize wr.alloc (bM yk yh1 yh2 yo ya1 ya2 yb1 yb2 yi) = w3 at *
     have p0 := one_at HB.out.Y 0 _ rfl
     have p1 := one_at HB.out.Y 1 _ rfl
     have p2 := one_at HB.out.Y 2 _ rfl
     have p3 := one_at HB.out.Y 3 _ rfl
     have p4 := one_at HB.out.Y 4 _ rfl
     have p5 := one_at HB.out.Y 5 _ rfl
     have p6 := one_at HB.out.Y 6 _ rfl
     have p7 := one_at HB.out.Y 7 _ rfl
     have p8 := one_at HB.out.Y 8 _ rfl
     obtain ⟨z0, g0, z1, g1, z2, g2, z3, g3⟩ := cf4 HPW.out
     obtain ⟨v0, f0, v1, f1, v2, f2, v3, f3, v4, f4, v5, f5, v6, f6⟩ := cf7 HB.out.M
     clear g0 g1 g2 g3 f0 f1 f2 f3 f4 f5 f6
     unfold stmV at HFO
     simp only at HFO
     go_wp2_with fail
     refine (HFO.out _ (Keeps.refl _ _)).mono ?_
     rintro e w4 ⟨rfl, hk⟩
     have HC := Lib.hid (HB.out.keeps hk.out)
     clear HFO HB HPW hk p0 p1 p2 p3 p4 p5 p6 p7 p8 z0 z1 z2 z3 v0 v1 v2 v3 v4 v5 v6
     have p0 := one_at HC.out.Y 0 _ rfl
     have p1 := one_at HC.out.Y 1 _ rfl
     have p2 := one_at HC.out.Y 2 _ rfl
     have p3 := one_at HC.out.Y 3 _ rfl
     have p4 := one_at HC.out.Y 4 _ rfl
     have p5 := one_at HC.out.Y 5 _ rfl
     have p6 := one_at HC.out.Y 6 _ rfl
     have p7 := one_at HC.out.Y 7 _ rfl
     have p8 := one_at HC.out.Y 8 _ rfl
     cases fb
     case false =>
      have HN : Hid (WayI w0 w4 vb (.slice ro rn rc) (.slice lo ln lc) (.slice none 0 0) R Lk [] ∧ (st.take (i + 1)).foldl (refStep gr sh) (Rn, Ln) = (R, Lk) ∧ OnWay gr sh st (qa1, qa2) (qb1, qb2) R Lk) := by
       have e : refStep gr sh (R, Lk) ((yh1, yh2), yk, yo, (ya1, ya2), (yb1, yb2), yi) = (R, Lk) := if_neg (fun e => by rw [HFB.out] at e; exact absurd e.1 (by decide))
       exact ⟨HC.out.one (rdX_nil _ _ _), by rw [HNX.out, e], HWY.out⟩
      clear HC HNX HAC HWY HFB
      go_wp2_with fail
      go_roundg (an - (i + 1))
      case measure => omega
      case rel => exact ⟨i + 1, ro, lo, rn, rc, ln, lc, R, Lk, by omega, rfl, by go_num, HN⟩
     case true =>
      by_cases hk1 : yk = 1
      case pos =>
       subst hk1
       have HN : Hid (WayI w0 w4 vb (.slice ro rn rc) (.slice lo ln lc) (.slice none 0 0) R Lk [] ∧ (st.take (i + 1)).foldl (refStep gr sh) (Rn, Ln) = (R, Lk) ∧ OnWay gr sh st (qa1, qa2) (qb1, qb2) R Lk) := by
        have e : refStep gr sh (R, Lk) ((yh1, yh2), 1, yo, (ya1, ya2), (yb1, yb2), yi) = (R, Lk) := if_neg (fun e => e.2 rfl)
        exact ⟨HC.out.one (rdX_nil _ _ _), by rw [HNX.out, e], HWY.out⟩
       clear HC HNX HAC HWY HFB
       go_wp2_with fail
       go_roundg (an - (i + 1))
       case measure => omega
       case rel => exact ⟨i + 1, ro, lo, rn, rc, ln, lc, R, Lk, by omega, rfl, by go_num, HN⟩
      case neg =>
       have hb1 : (yk == 1) = false := beq_eq_false_iff_ne.2 hk1
       have HRS : Hid (refStep gr sh (R, Lk) ((yh1, yh2), yk, yo, (ya1, ya2), (yb1, yb2), yi) = (addR R ((yh1, yh2), yk, yo, (ya1, ya2), (yb1, yb2), yi), addL Lk ((yh1, yh2), yk, yo, (ya1, ya2), (yb1, yb2), yi))) := if_pos ⟨HFB.out, hk1⟩
       have HON : Hid (OnWay gr sh st (qa1, qa2) (qb1, qb2) (addR R ((yh1, yh2), yk, yo, (ya1, ya2), (yb1, yb2), yi)) (addL Lk ((yh1, yh2), yk, yo, (ya1, ya2), (yb1, yb2), yi))) := by
        have q := (HWY.out.ref1 (v := (R, Lk)) HYM.out).1
        rw [HRS.out] at q
        exact q
       have HFD := Lib.hid (HNX.out.trans HRS.out)
       have HLS := Lib.hid HWY.out.ls
       clear HRS HNX HAC HWY HFB
       go_upto_if 43 with fail
       go_upto_region 9 with fail
       go_cut [30] from 30 to 76 (fun t wx => t = .int .i64 i ∧ ∃ (ro : Option Addr) (rn rc : Nat), Hid (WayI w0 wx vb (.slice ro rn rc) (.slice lo ln lc) (.slice (some ⟨b, 0, none⟩) 1 1) (sortO rolLt (R ++ [(ya1, ya2)])) Lk [((yh1, yh2), yk, yo, (ya1, ya2), (yb1, yb2), yi)]))
       case first =>
        obtain ⟨bs, hbs⟩ : ∃ q, w4.heap.size = q := ⟨_, rfl⟩
        have HBS := Lib.hid hbs
        have HRSRC := Lib.hid HC.out.R.1
        have HRLE : Hid (R.length ≤ 300) := by show _ ≤ _; omega
        clear hbs
        have HMK92 : Hid (∀ w' : World, KF w4 w' → w'.cell? ⟨b, 4, none⟩ = some (.string ⟨ya1.toArray⟩) ∧ w'.cell? ⟨b, 5, none⟩ = some (.string ⟨ya2.toArray⟩)) := fun w' hk => ⟨kc hk p4, kc hk p5⟩
        have HKX92 : Hid (KF w4 w4.drew) := (Keeps.refl _ _).drew
        have hS0 := HMK92.out _ HKX92.out
        clear p4 p5
        refine wp_region_noPanic ?_
        refine wp_region_held_drew (S := (fun w' => w'.cell? ⟨b, 4, none⟩ = some (.string ⟨ya1.toArray⟩) ∧ w'.cell? ⟨b, 5, none⟩ = some (.string ⟨ya2.toArray⟩))) (by kernel_rfl) hS0 (fun hHeld => ?_)
        clear hS0
        generalize w4.drew = wA at *
        refine tk 1 rfl hHeld ?_
        refine tk 4 rfl hHeld ?_
        refine tk 5 rfl hHeld ?_
        (try simp only [nz])
        refine wpAnyH_three (i := 0) (j := 2) (k := 6) (by kernel_rfl) rfl rfl rfl (fun KK hK => ?p1X) (fun KK hK => ?p2X) (fun KK hK => ?p3X)
        case p1X =>
         have hkE : KF wA (wA.alloc (.cells #[] 28)) := (Keeps.refl _ _).alloc _
         have HOW : Hid (OwnK rolE bs (wA.alloc (.cells #[] 28)) (.slice (some ⟨wA.heap.size, 0, none⟩) 0 0) ([] : List Rol)) := ownK_lit rolE (by have := HKX92.out.size; have := HBS.out; omega)
         replace HKX92 := Lib.hid (HKX92.out.trans hkE)
         clear hkE
         go_simp
         refine hK.out _ _ (HMK92.out _ HKX92.out) fun hHeld => ?_
         clear hK KK
         (try simp only [nz])
         generalize (wA.alloc (.cells #[] 28)) = wS4 at *
         obtain ⟨ev, hev⟩ : ∃ ev, Value.slice (some ⟨wA.heap.size, 0, none⟩) 0 0 = ev := ⟨_, rfl⟩
         (try simp only [hev])
         (try simp only [hev] at HOW)
         clear hev
         refine wpAnyH_two (i := 2) (j := 6) (by kernel_rfl) rfl rfl (fun KK hK => ?p5X) (fun KK hK => ?p6X)
         case p5X =>
          have v0 : wS4.cell? ⟨vb, 0, none⟩ = some (.slice ro rn rc) := (HKX92.out.cell (p := ⟨vb, 0, none⟩) (lt_of_heap HC.out.M) (fun x => x)).trans (cf7 HC.out.M).1
          go_simp
          refine hK.out _ _ (HMK92.out _ HKX92.out) fun hHeld => ?_
          clear hK KK
          (try simp only [nz])
          clear v0
          refine wpAnyH_two (i := 3) (j := 6) (by kernel_rfl) rfl rfl (fun KK hK => ?p8X) (fun KK hK => ?p9X)
          case p8X =>
           have hlo : bs ≤ wS4.heap.size := by have := HKX92.out.size; have := HBS.out; omega
           refine step_app_k (E := rolE) rfl (.tmp 44) (.tmp 46) rfl bs ev [] (by simp [Act.eval, Act.put] <;> rfl) HOW.out _ R (by simp [Act.eval, Act.put] <;> rfl) (HRSRC.out.keeps HKX92.out) (by have := HRLE.out; simp; omega) hlo ?_
           intro evS10 wS10 ho hk
           have hk0 : KF w4 wS10 := HKX92.out.trans_new hk (fun q hq e => by have := own_block HOW.out q e; have := HBS.out; omega)
           replace HKX92 := Lib.hid hk0
           replace HOW := Lib.hid ho
           clear hk0 hk ho hlo
           (try go_simp)
           refine hK.out _ _ (HMK92.out _ HKX92.out) fun hHeld => ?_
           clear hK KK
           (try simp only [nz])
           refine on1 6 rfl fun KK hK => ?_
           have hkE : KF wS10 (wS10.alloc (bR ya1 ya2)) := (Keeps.refl _ _).alloc _
           have HXR : Hid (SrcK rolE (wS10.alloc (bR ya1 ya2)) (.slice (some ⟨wS10.heap.size, 0, none⟩) 1 1) [(ya1, ya2)]) := one_srcK (E := rolE) wS10 (ya1, ya2) #[.string ⟨ya1.toArray⟩, .string ⟨ya2.toArray⟩] rfl
           replace HOW := Lib.hid (HOW.out.keeps hkE (fun _ _ z => z))
           replace HKX92 := Lib.hid (HKX92.out.trans hkE)
           clear hkE
           go_simp
           refine hK.out _ _ (HMK92.out _ HKX92.out) fun hHeld => ?_
           clear hK KK
           (try simp only [nz])
           generalize (wS10.alloc (bR ya1 ya2)) = wS11 at *
           obtain ⟨xb, hxb⟩ : ∃ xb, wS10.heap.size = xb := ⟨_, rfl⟩
           (try simp only [hxb])
           (try simp only [hxb] at HXR)
           clear hxb
           refine on1 7 rfl fun KK hK => ?_
           have hlo : bs ≤ wS11.heap.size := by have := HKX92.out.size; have := HBS.out; omega
           refine step_app_k (E := rolE) rfl (.tmp 47) (.tmp 50) rfl bs evS10 ([] ++ R) (by simp [Act.eval, Act.put] <;> rfl) HOW.out _ [(ya1, ya2)] (by simp [Act.eval, Act.put] <;> rfl) HXR.out (by have := HRLE.out; simp; omega) hlo ?_
           intro evY wY ho hk
           have hk0 : KF w4 wY := HKX92.out.trans_new hk (fun q hq e => by have := own_block HOW.out q e; have := HBS.out; omega)
           replace HKX92 := Lib.hid hk0
           replace HOW := Lib.hid ho
           clear hk0 hk ho hlo
           (try go_simp)
           refine hK.out _ _ (HMK92.out _ HKX92.out) fun hHeld => ?_
           clear hK KK
           (try simp only [nz])
           have HSR := Lib.hid (rsortr_spec (rdk_r.1 HOW.out.reads) (by have := HRLE.out; simp only [List.nil_append, List.length_append, List.length_cons, List.length_nil]; omega))
           refine on1 8 rfl fun KK hK => ?_
           go_simp
           refine HSR.out.mono ?_
           rintro e wZ ⟨vZ, rfl, hk⟩
           have HOZ : Hid (OwnK rolE w4.heap.size wZ vZ (sortO rolLt (R ++ [(ya1, ya2)]))) := by
            have q := hk.out.2
            rw [List.nil_append] at q
            exact q.base (by have := HKX92.out.size; omega)
           replace HKX92 := Lib.hid (HKX92.out.trans hk.out.1)
           obtain ⟨zo, zc, hvz, _⟩ := id HOZ.out.reads
           obtain ⟨zn, hzn⟩ : ∃ n, (sortO rolLt (R ++ [(ya1, ya2)])).length = n := ⟨_, rfl⟩
           rw [hzn] at hvz
           subst hvz
           clear hk HSR hzn HOW HXR
           go_simp
           refine hK.out _ _ (HMK92.out _ HKX92.out) fun hHeld => ?_
           clear hK KK
           (try simp only [nz])
           refine on1 9 rfl fun KK hK => ?_
           go_simp
           refine hK.out _ _ (HMK92.out _ HKX92.out) fun hHeld => ?_
           clear hK KK
           (try simp only [nz])
           refine on1 10 rfl fun KK hK => ?_
           have HE := Lib.hid (HC.out.roles HKX92.out HOZ.out)
           have v0 := (cf7 (HC.out.keeps HKX92.out).M).1
           have f0 := (cf7 (HC.out.keeps HKX92.out).M).2.1
           go_simp
           refine hK.out _ _ ⟨one_at HE.out.Y 4 _ rfl, one_at HE.out.Y 5 _ rfl⟩ (fun hHeld => ?_)
           clear hK KK v0 f0 HOZ
           (try simp only [nz])
           generalize (wZ.setCell ⟨vb, 0, none⟩ (.slice zo zn zc)) = wE at *
           refine wpAnyH_done (by kernel_rfl) ?_ _
           refine NoPanic.normal ?_
           clear hHeld HMK92 HKX92 HRSRC HBS
           have HN : Hid (WayI w0 wE vb (.slice zo zn zc) (.slice lo ln lc) (.slice (some ⟨b, 0, none⟩) 1 1) (sortO rolLt (R ++ [(ya1, ya2)])) Lk [((yh1, yh2), yk, yo, (ya1, ya2), (yb1, yb2), yi)]) := HE.out
           clear HE
           go_wp2_with fail
           go_meet
           exact ⟨rfl, _, _, _, HN⟩
          case p9X =>
           have HXN : Hid (¬ ev.ownBlock = some wS4.heap.size) := fun e => by have := own_lt HOW.out _ e; omega
           have HXL : Hid (wS4.heap.size < (wS4.alloc (bR ya1 ya2)).heap.size) := by rw [size_alloc]; show _ < _; omega
           have hkE : KF wS4 (wS4.alloc (bR ya1 ya2)) := (Keeps.refl _ _).alloc _
           have HXR : Hid (SrcK rolE (wS4.alloc (bR ya1 ya2)) (.slice (some ⟨wS4.heap.size, 0, none⟩) 1 1) [(ya1, ya2)]) := one_srcK (E := rolE) wS4 (ya1, ya2) #[.string ⟨ya1.toArray⟩, .string ⟨ya2.toArray⟩] rfl
           try (replace HOW := Lib.hid (HOW.out.keeps hkE (fun _ _ z => z)))
           replace HKX92 := Lib.hid (HKX92.out.trans hkE)
           clear hkE
           go_simp
           refine hK.out _ _ (HMK92.out _ HKX92.out) fun hHeld => ?_
           clear hK KK
           (try simp only [nz])
           generalize (wS4.alloc (bR ya1 ya2)) = wS12 at *
           obtain ⟨xb, hxb⟩ : ∃ xb, wS4.heap.size = xb := ⟨_, rfl⟩
           (try simp only [hxb])
           (try simp only [hxb] at HXR)
           (try simp only [hxb] at HXL)
           (try simp only [hxb] at HXN)
           clear hxb
           refine on1 3 rfl fun KK hK => ?_
           have HXX : ∀ w' : World, Keeps (fun q => (ev : Value).ownBlock = some q) wS12 w' → SrcK rolE w' (.slice (some ⟨xb, 0, none⟩) 1 1) [(ya1, ya2)] := fun w' hk => by
            have q : RdX rolE wS12 (.slice (some ⟨xb, 0, none⟩) 1 1) [(ya1, ya2)] (fun k => (ev : Value).ownBlock ≠ some k) := ⟨HXR.out, fun k e => by
             simp only [Value.ownBlock, Option.map_some, Option.some.injEq] at e
             exact ⟨by rw [← e]; exact HXL.out, fun e2 => by have := HXN.out; exact this (by rw [e]; exact e2)⟩⟩
            exact (q.keeps hk (fun q _ hp e => hp e)).1
           have hlo : bs ≤ wS12.heap.size := by have := HKX92.out.size; have := HBS.out; omega
           refine step_app_k (E := rolE) rfl (.tmp 44) (.tmp 46) rfl bs ev [] (by simp [Act.eval, Act.put] <;> rfl) HOW.out _ R (by simp [Act.eval, Act.put] <;> rfl) (HRSRC.out.keeps HKX92.out) (by have := HRLE.out; simp; omega) hlo ?_
           intro evS13 wS13 ho hk
           have hk0 : KF w4 wS13 := HKX92.out.trans_new hk (fun q hq e => by have := own_block HOW.out q e; have := HBS.out; omega)
           have hxk : SrcK rolE wS13 (.slice (some ⟨xb, 0, none⟩) 1 1) [(ya1, ya2)] := (HXX wS13 hk)
           replace HKX92 := Lib.hid hk0
           replace HOW := Lib.hid ho
           replace HXR := Lib.hid hxk
           clear hxk
           clear hk0 hk ho hlo
           (try go_simp)
           refine hK.out _ _ (HMK92.out _ HKX92.out) fun hHeld => ?_
           clear hK KK
           (try simp only [nz])
           clear HXX HXL HXN
           refine on1 7 rfl fun KK hK => ?_
           have hlo : bs ≤ wS13.heap.size := by have := HKX92.out.size; have := HBS.out; omega
           refine step_app_k (E := rolE) rfl (.tmp 47) (.tmp 50) rfl bs evS13 ([] ++ R) (by simp [Act.eval, Act.put] <;> rfl) HOW.out _ [(ya1, ya2)] (by simp [Act.eval, Act.put] <;> rfl) HXR.out (by have := HRLE.out; simp; omega) hlo ?_
           intro evY wY ho hk
           have hk0 : KF w4 wY := HKX92.out.trans_new hk (fun q hq e => by have := own_block HOW.out q e; have := HBS.out; omega)
           replace HKX92 := Lib.hid hk0
           replace HOW := Lib.hid ho
           clear hk0 hk ho hlo
           (try go_simp)
           refine hK.out _ _ (HMK92.out _ HKX92.out) fun hHeld => ?_
           clear hK KK
           (try simp only [nz])
           have HSR := Lib.hid (rsortr_spec (rdk_r.1 HOW.out.reads) (by have := HRLE.out; simp only [List.nil_append, List.length_append, List.length_cons, List.length_nil]; omega))
           refine on1 8 rfl fun KK hK => ?_
           go_simp
           refine HSR.out.mono ?_
           rintro e wZ ⟨vZ, rfl, hk⟩
           have HOZ : Hid (OwnK rolE w4.heap.size wZ vZ (sortO rolLt (R ++ [(ya1, ya2)]))) := by
            have q := hk.out.2
            rw [List.nil_append] at q
            exact q.base (by have := HKX92.out.size; omega)
           replace HKX92 := Lib.hid (HKX92.out.trans hk.out.1)
           obtain ⟨zo, zc, hvz, _⟩ := id HOZ.out.reads
           obtain ⟨zn, hzn⟩ : ∃ n, (sortO rolLt (R ++ [(ya1, ya2)])).length = n := ⟨_, rfl⟩
           rw [hzn] at hvz
           subst hvz
           clear hk HSR hzn HOW HXR
           go_simp
           refine hK.out _ _ (HMK92.out _ HKX92.out) fun hHeld => ?_
           clear hK KK
           (try simp only [nz])
           refine on1 9 rfl fun KK hK => ?_
           go_simp
           refine hK.out _ _ (HMK92.out _ HKX92.out) fun hHeld => ?_
           clear hK KK
           (try simp only [nz])
           refine on1 10 rfl fun KK hK => ?_
           have HE := Lib.hid (HC.out.roles HKX92.out HOZ.out)
           have v0 := (cf7 (HC.out.keeps HKX92.out).M).1
           have f0 := (cf7 (HC.out.keeps HKX92.out).M).2.1
           go_simp
           refine hK.out _ _ ⟨one_at HE.out.Y 4 _ rfl, one_at HE.out.Y 5 _ rfl⟩ (fun hHeld => ?_)
           clear hK KK v0 f0 HOZ
           (try simp only [nz])
           generalize (wZ.setCell ⟨vb, 0, none⟩ (.slice zo zn zc)) = wE at *
           refine wpAnyH_done (by kernel_rfl) ?_ _
           refine NoPanic.normal ?_
           clear hHeld HMK92 HKX92 HRSRC HBS
           have HN : Hid (WayI w0 wE vb (.slice zo zn zc) (.slice lo ln lc) (.slice (some ⟨b, 0, none⟩) 1 1) (sortO rolLt (R ++ [(ya1, ya2)])) Lk [((yh1, yh2), yk, yo, (ya1, ya2), (yb1, yb2), yi)]) := HE.out
           clear HE
           go_wp2_with fail
           go_meet
           exact ⟨rfl, _, _, _, HN⟩
         case p6X =>
          have HXN : Hid (¬ ev.ownBlock = some wS4.heap.size) := fun e => by have := own_lt HOW.out _ e; omega
          have HXL : Hid (wS4.heap.size < (wS4.alloc (bR ya1 ya2)).heap.size) := by rw [size_alloc]; show _ < _; omega
          have hkE : KF wS4 (wS4.alloc (bR ya1 ya2)) := (Keeps.refl _ _).alloc _
          have HXR : Hid (SrcK rolE (wS4.alloc (bR ya1 ya2)) (.slice (some ⟨wS4.heap.size, 0, none⟩) 1 1) [(ya1, ya2)]) := one_srcK (E := rolE) wS4 (ya1, ya2) #[.string ⟨ya1.toArray⟩, .string ⟨ya2.toArray⟩] rfl
          try (replace HOW := Lib.hid (HOW.out.keeps hkE (fun _ _ z => z)))
          replace HKX92 := Lib.hid (HKX92.out.trans hkE)
          clear hkE
          go_simp
          refine hK.out _ _ (HMK92.out _ HKX92.out) fun hHeld => ?_
          clear hK KK
          (try simp only [nz])
          generalize (wS4.alloc (bR ya1 ya2)) = wS14 at *
          obtain ⟨xb, hxb⟩ : ∃ xb, wS4.heap.size = xb := ⟨_, rfl⟩
          (try simp only [hxb])
          (try simp only [hxb] at HXR)
          (try simp only [hxb] at HXL)
          (try simp only [hxb] at HXN)
          clear hxb
          refine on1 2 rfl fun KK hK => ?_
          have v0 : wS14.cell? ⟨vb, 0, none⟩ = some (.slice ro rn rc) := (HKX92.out.cell (p := ⟨vb, 0, none⟩) (lt_of_heap HC.out.M) (fun x => x)).trans (cf7 HC.out.M).1
          go_simp
          refine hK.out _ _ (HMK92.out _ HKX92.out) fun hHeld => ?_
          clear hK KK
          (try simp only [nz])
          clear v0
          refine on1 3 rfl fun KK hK => ?_
          have HXX : ∀ w' : World, Keeps (fun q => (ev : Value).ownBlock = some q) wS14 w' → SrcK rolE w' (.slice (some ⟨xb, 0, none⟩) 1 1) [(ya1, ya2)] := fun w' hk => by
           have q : RdX rolE wS14 (.slice (some ⟨xb, 0, none⟩) 1 1) [(ya1, ya2)] (fun k => (ev : Value).ownBlock ≠ some k) := ⟨HXR.out, fun k e => by
            simp only [Value.ownBlock, Option.map_some, Option.some.injEq] at e
            exact ⟨by rw [← e]; exact HXL.out, fun e2 => by have := HXN.out; exact this (by rw [e]; exact e2)⟩⟩
           exact (q.keeps hk (fun q _ hp e => hp e)).1
          have hlo : bs ≤ wS14.heap.size := by have := HKX92.out.size; have := HBS.out; omega
          refine step_app_k (E := rolE) rfl (.tmp 44) (.tmp 46) rfl bs ev [] (by simp [Act.eval, Act.put] <;> rfl) HOW.out _ R (by simp [Act.eval, Act.put] <;> rfl) (HRSRC.out.keeps HKX92.out) (by have := HRLE.out; simp; omega) hlo ?_
          intro evS16 wS16 ho hk
          have hk0 : KF w4 wS16 := HKX92.out.trans_new hk (fun q hq e => by have := own_block HOW.out q e; have := HBS.out; omega)
          have hxk : SrcK rolE wS16 (.slice (some ⟨xb, 0, none⟩) 1 1) [(ya1, ya2)] := (HXX wS16 hk)
          replace HKX92 := Lib.hid hk0
          replace HOW := Lib.hid ho
          replace HXR := Lib.hid hxk
          clear hxk
          clear hk0 hk ho hlo
          (try go_simp)
          refine hK.out _ _ (HMK92.out _ HKX92.out) fun hHeld => ?_
          clear hK KK
          (try simp only [nz])
          clear HXX HXL HXN
          refine on1 7 rfl fun KK hK => ?_
          have hlo : bs ≤ wS16.heap.size := by have := HKX92.out.size; have := HBS.out; omega
          refine step_app_k (E := rolE) rfl (.tmp 47) (.tmp 50) rfl bs evS16 ([] ++ R) (by simp [Act.eval, Act.put] <;> rfl) HOW.out _ [(ya1, ya2)] (by simp [Act.eval, Act.put] <;> rfl) HXR.out (by have := HRLE.out; simp; omega) hlo ?_
          intro evY wY ho hk
          have hk0 : KF w4 wY := HKX92.out.trans_new hk (fun q hq e => by have := own_block HOW.out q e; have := HBS.out; omega)
          replace HKX92 := Lib.hid hk0
          replace HOW := Lib.hid ho
          clear hk0 hk ho hlo
          (try go_simp)
          refine hK.out _ _ (HMK92.out _ HKX92.out) fun hHeld => ?_
          clear hK KK
          (try simp only [nz])
          have HSR := Lib.hid (rsortr_spec (rdk_r.1 HOW.out.reads) (by have := HRLE.out; simp only [List.nil_append, List.length_append, List.length_cons, List.length_nil]; omega))
          refine on1 8 rfl fun KK hK => ?_
          go_simp
          refine HSR.out.mono ?_
          rintro e wZ ⟨vZ, rfl, hk⟩
          have HOZ : Hid (OwnK rolE w4.heap.size wZ vZ (sortO rolLt (R ++ [(ya1, ya2)]))) := by
           have q := hk.out.2
           rw [List.nil_append] at q
           exact q.base (by have := HKX92.out.size; omega)
          replace HKX92 := Lib.hid (HKX92.out.trans hk.out.1)
          obtain ⟨zo, zc, hvz, _⟩ := id HOZ.out.reads
          obtain ⟨zn, hzn⟩ : ∃ n, (sortO rolLt (R ++ [(ya1, ya2)])).length = n := ⟨_, rfl⟩
          rw [hzn] at hvz
          subst hvz
          clear hk HSR hzn HOW HXR
          go_simp
          refine hK.out _ _ (HMK92.out _ HKX92.out) fun hHeld => ?_
          clear hK KK
          (try simp only [nz])
          refine on1 9 rfl fun KK hK => ?_
          go_simp
          refine hK.out _ _ (HMK92.out _ HKX92.out) fun hHeld => ?_
          clear hK KK
          (try simp only [nz])
          refine on1 10 rfl fun KK hK => ?_
          have HE := Lib.hid (HC.out.roles HKX92.out HOZ.out)
          have v0 := (cf7 (HC.out.keeps HKX92.out).M).1
          have f0 := (cf7 (HC.out.keeps HKX92.out).M).2.1
          go_simp
          refine hK.out _ _ ⟨one_at HE.out.Y 4 _ rfl, one_at HE.out.Y 5 _ rfl⟩ (fun hHeld => ?_)
          clear hK KK v0 f0 HOZ
          (try simp only [nz])
          generalize (wZ.setCell ⟨vb, 0, none⟩ (.slice zo zn zc)) = wE at *
          refine wpAnyH_done (by kernel_rfl) ?_ _
          refine NoPanic.normal ?_
          clear hHeld HMK92 HKX92 HRSRC HBS
          have HN : Hid (WayI w0 wE vb (.slice zo zn zc) (.slice lo ln lc) (.slice (some ⟨b, 0, none⟩) 1 1) (sortO rolLt (R ++ [(ya1, ya2)])) Lk [((yh1, yh2), yk, yo, (ya1, ya2), (yb1, yb2), yi)]) := HE.out
          clear HE
          go_wp2_with fail
          go_meet
          exact ⟨rfl, _, _, _, HN⟩
        case p2X =>
         have v0 : wA.cell? ⟨vb, 0, none⟩ = some (.slice ro rn rc) := (HKX92.out.cell (p := ⟨vb, 0, none⟩) (lt_of_heap HC.out.M) (fun x => x)).trans (cf7 HC.out.M).1
         go_simp
         refine hK.out _ _ (HMK92.out _ HKX92.out) fun hHeld => ?_
         clear hK KK
         (try simp only [nz])
         clear v0
         refine wpAnyH_two (i := 0) (j := 6) (by kernel_rfl) rfl rfl (fun KK hK => ?p18X) (fun KK hK => ?p19X)
         case p18X =>
          have hkE : KF wA (wA.alloc (.cells #[] 28)) := (Keeps.refl _ _).alloc _
          have HOW : Hid (OwnK rolE bs (wA.alloc (.cells #[] 28)) (.slice (some ⟨wA.heap.size, 0, none⟩) 0 0) ([] : List Rol)) := ownK_lit rolE (by have := HKX92.out.size; have := HBS.out; omega)
          replace HKX92 := Lib.hid (HKX92.out.trans hkE)
          clear hkE
          go_simp
          refine hK.out _ _ (HMK92.out _ HKX92.out) fun hHeld => ?_
          clear hK KK
          (try simp only [nz])
          generalize (wA.alloc (.cells #[] 28)) = wS20 at *
          obtain ⟨ev, hev⟩ : ∃ ev, Value.slice (some ⟨wA.heap.size, 0, none⟩) 0 0 = ev := ⟨_, rfl⟩
          (try simp only [hev])
          (try simp only [hev] at HOW)
          clear hev
          refine wpAnyH_two (i := 3) (j := 6) (by kernel_rfl) rfl rfl (fun KK hK => ?p21X) (fun KK hK => ?p22X)
          case p21X =>
           have hlo : bs ≤ wS20.heap.size := by have := HKX92.out.size; have := HBS.out; omega
           refine step_app_k (E := rolE) rfl (.tmp 44) (.tmp 46) rfl bs ev [] (by simp [Act.eval, Act.put] <;> rfl) HOW.out _ R (by simp [Act.eval, Act.put] <;> rfl) (HRSRC.out.keeps HKX92.out) (by have := HRLE.out; simp; omega) hlo ?_
           intro evS23 wS23 ho hk
           have hk0 : KF w4 wS23 := HKX92.out.trans_new hk (fun q hq e => by have := own_block HOW.out q e; have := HBS.out; omega)
           replace HKX92 := Lib.hid hk0
           replace HOW := Lib.hid ho
           clear hk0 hk ho hlo
           (try go_simp)
           refine hK.out _ _ (HMK92.out _ HKX92.out) fun hHeld => ?_
           clear hK KK
           (try simp only [nz])
           refine on1 6 rfl fun KK hK => ?_
           have hkE : KF wS23 (wS23.alloc (bR ya1 ya2)) := (Keeps.refl _ _).alloc _
           have HXR : Hid (SrcK rolE (wS23.alloc (bR ya1 ya2)) (.slice (some ⟨wS23.heap.size, 0, none⟩) 1 1) [(ya1, ya2)]) := one_srcK (E := rolE) wS23 (ya1, ya2) #[.string ⟨ya1.toArray⟩, .string ⟨ya2.toArray⟩] rfl
           replace HOW := Lib.hid (HOW.out.keeps hkE (fun _ _ z => z))
           replace HKX92 := Lib.hid (HKX92.out.trans hkE)
           clear hkE
           go_simp
           refine hK.out _ _ (HMK92.out _ HKX92.out) fun hHeld => ?_
           clear hK KK
           (try simp only [nz])
           generalize (wS23.alloc (bR ya1 ya2)) = wS24 at *
           obtain ⟨xb, hxb⟩ : ∃ xb, wS23.heap.size = xb := ⟨_, rfl⟩
           (try simp only [hxb])
           (try simp only [hxb] at HXR)
           clear hxb
           refine on1 7 rfl fun KK hK => ?_
           have hlo : bs ≤ wS24.heap.size := by have := HKX92.out.size; have := HBS.out; omega
           refine step_app_k (E := rolE) rfl (.tmp 47) (.tmp 50) rfl bs evS23 ([] ++ R) (by simp [Act.eval, Act.put] <;> rfl) HOW.out _ [(ya1, ya2)] (by simp [Act.eval, Act.put] <;> rfl) HXR.out (by have := HRLE.out; simp; omega) hlo ?_
           intro evY wY ho hk
           have hk0 : KF w4 wY := HKX92.out.trans_new hk (fun q hq e => by have := own_block HOW.out q e; have := HBS.out; omega)
           replace HKX92 := Lib.hid hk0
           replace HOW := Lib.hid ho
           clear hk0 hk ho hlo
           (try go_simp)
           refine hK.out _ _ (HMK92.out _ HKX92.out) fun hHeld => ?_
           clear hK KK
           (try simp only [nz])
           have HSR := Lib.hid (rsortr_spec (rdk_r.1 HOW.out.reads) (by have := HRLE.out; simp only [List.nil_append, List.length_append, List.length_cons, List.length_nil]; omega))
           refine on1 8 rfl fun KK hK => ?_
           go_simp
           refine HSR.out.mono ?_
           rintro e wZ ⟨vZ, rfl, hk⟩
           have HOZ : Hid (OwnK rolE w4.heap.size wZ vZ (sortO rolLt (R ++ [(ya1, ya2)]))) := by
            have q := hk.out.2
            rw [List.nil_append] at q
            exact q.base (by have := HKX92.out.size; omega)
           replace HKX92 := Lib.hid (HKX92.out.trans hk.out.1)
           obtain ⟨zo, zc, hvz, _⟩ := id HOZ.out.reads
           obtain ⟨zn, hzn⟩ : ∃ n, (sortO rolLt (R ++ [(ya1, ya2)])).length = n := ⟨_, rfl⟩
           rw [hzn] at hvz
           subst hvz
           clear hk HSR hzn HOW HXR
           go_simp
           refine hK.out _ _ (HMK92.out _ HKX92.out) fun hHeld => ?_
           clear hK KK
           (try simp only [nz])
           refine on1 9 rfl fun KK hK => ?_
           go_simp
           refine hK.out _ _ (HMK92.out _ HKX92.out) fun hHeld => ?_
           clear hK KK
           (try simp only [nz])
           refine on1 10 rfl fun KK hK => ?_
           have HE := Lib.hid (HC.out.roles HKX92.out HOZ.out)
           have v0 := (cf7 (HC.out.keeps HKX92.out).M).1
           have f0 := (cf7 (HC.out.keeps HKX92.out).M).2.1
           go_simp
           refine hK.out _ _ ⟨one_at HE.out.Y 4 _ rfl, one_at HE.out.Y 5 _ rfl⟩ (fun hHeld => ?_)
           clear hK KK v0 f0 HOZ
           (try simp only [nz])
           generalize (wZ.setCell ⟨vb, 0, none⟩ (.slice zo zn zc)) = wE at *
           refine wpAnyH_done (by kernel_rfl) ?_ _
           refine NoPanic.normal ?_
           clear hHeld HMK92 HKX92 HRSRC HBS
           have HN : Hid (WayI w0 wE vb (.slice zo zn zc) (.slice lo ln lc) (.slice (some ⟨b, 0, none⟩) 1 1) (sortO rolLt (R ++ [(ya1, ya2)])) Lk [((yh1, yh2), yk, yo, (ya1, ya2), (yb1, yb2), yi)]) := HE.out
           clear HE
           go_wp2_with fail
           go_meet
           exact ⟨rfl, _, _, _, HN⟩
          case p22X =>
           have HXN : Hid (¬ ev.ownBlock = some wS20.heap.size) := fun e => by have := own_lt HOW.out _ e; omega
           have HXL : Hid (wS20.heap.size < (wS20.alloc (bR ya1 ya2)).heap.size) := by rw [size_alloc]; show _ < _; omega
           have hkE : KF wS20 (wS20.alloc (bR ya1 ya2)) := (Keeps.refl _ _).alloc _
           have HXR : Hid (SrcK rolE (wS20.alloc (bR ya1 ya2)) (.slice (some ⟨wS20.heap.size, 0, none⟩) 1 1) [(ya1, ya2)]) := one_srcK (E := rolE) wS20 (ya1, ya2) #[.string ⟨ya1.toArray⟩, .string ⟨ya2.toArray⟩] rfl
           try (replace HOW := Lib.hid (HOW.out.keeps hkE (fun _ _ z => z)))
           replace HKX92 := Lib.hid (HKX92.out.trans hkE)
           clear hkE
           go_simp
           refine hK.out _ _ (HMK92.out _ HKX92.out) fun hHeld => ?_
           clear hK KK
           (try simp only [nz])
           generalize (wS20.alloc (bR ya1 ya2)) = wS25 at *
           obtain ⟨xb, hxb⟩ : ∃ xb, wS20.heap.size = xb := ⟨_, rfl⟩
           (try simp only [hxb])
           (try simp only [hxb] at HXR)
           (try simp only [hxb] at HXL)
           (try simp only [hxb] at HXN)
           clear hxb
           refine on1 3 rfl fun KK hK => ?_
           have HXX : ∀ w' : World, Keeps (fun q => (ev : Value).ownBlock = some q) wS25 w' → SrcK rolE w' (.slice (some ⟨xb, 0, none⟩) 1 1) [(ya1, ya2)] := fun w' hk => by
            have q : RdX rolE wS25 (.slice (some ⟨xb, 0, none⟩) 1 1) [(ya1, ya2)] (fun k => (ev : Value).ownBlock ≠ some k) := ⟨HXR.out, fun k e => by
             simp only [Value.ownBlock, Option.map_some, Option.some.injEq] at e
             exact ⟨by rw [← e]; exact HXL.out, fun e2 => by have := HXN.out; exact this (by rw [e]; exact e2)⟩⟩
            exact (q.keeps hk (fun q _ hp e => hp e)).1
           have hlo : bs ≤ wS25.heap.size := by have := HKX92.out.size; have := HBS.out; omega
           refine step_app_k (E := rolE) rfl (.tmp 44) (.tmp 46) rfl bs ev [] (by simp [Act.eval, Act.put] <;> rfl) HOW.out _ R (by simp [Act.eval, Act.put] <;> rfl) (HRSRC.out.keeps HKX92.out) (by have := HRLE.out; simp; omega) hlo ?_
           intro evS26 wS26 ho hk
           have hk0 : KF w4 wS26 := HKX92.out.trans_new hk (fun q hq e => by have := own_block HOW.out q e; have := HBS.out; omega)
           have hxk : SrcK rolE wS26 (.slice (some ⟨xb, 0, none⟩) 1 1) [(ya1, ya2)] := (HXX wS26 hk)
           replace HKX92 := Lib.hid hk0
           replace HOW := Lib.hid ho
           replace HXR := Lib.hid hxk
           clear hxk
           clear hk0 hk ho hlo
           (try go_simp)
           refine hK.out _ _ (HMK92.out _ HKX92.out) fun hHeld => ?_
           clear hK KK
           (try simp only [nz])
           clear HXX HXL HXN
           refine on1 7 rfl fun KK hK => ?_
           have hlo : bs ≤ wS26.heap.size := by have := HKX92.out.size; have := HBS.out; omega
           refine step_app_k (E := rolE) rfl (.tmp 47) (.tmp 50) rfl bs evS26 ([] ++ R) (by simp [Act.eval, Act.put] <;> rfl) HOW.out _ [(ya1, ya2)] (by simp [Act.eval, Act.put] <;> rfl) HXR.out (by have := HRLE.out; simp; omega) hlo ?_
           intro evY wY ho hk
           have hk0 : KF w4 wY := HKX92.out.trans_new hk (fun q hq e => by have := own_block HOW.out q e; have := HBS.out; omega)
           replace HKX92 := Lib.hid hk0
           replace HOW := Lib.hid ho
           clear hk0 hk ho hlo
           (try go_simp)
           refine hK.out _ _ (HMK92.out _ HKX92.out) fun hHeld => ?_
           clear hK KK
           (try simp only [nz])
           have HSR := Lib.hid (rsortr_spec (rdk_r.1 HOW.out.reads) (by have := HRLE.out; simp only [List.nil_append, List.length_append, List.length_cons, List.length_nil]; omega))
           refine on1 8 rfl fun KK hK => ?_
           go_simp
           refine HSR.out.mono ?_
           rintro e wZ ⟨vZ, rfl, hk⟩
           have HOZ : Hid (OwnK rolE w4.heap.size wZ vZ (sortO rolLt (R ++ [(ya1, ya2)]))) := by
            have q := hk.out.2
            rw [List.nil_append] at q
            exact q.base (by have := HKX92.out.size; omega)
           replace HKX92 := Lib.hid (HKX92.out.trans hk.out.1)
           obtain ⟨zo, zc, hvz, _⟩ := id HOZ.out.reads
           obtain ⟨zn, hzn⟩ : ∃ n, (sortO rolLt (R ++ [(ya1, ya2)])).length = n := ⟨_, rfl⟩
           rw [hzn] at hvz
           subst hvz
           clear hk HSR hzn HOW HXR
           go_simp
           refine hK.out _ _ (HMK92.out _ HKX92.out) fun hHeld => ?_
           clear hK KK
           (try simp only [nz])
           refine on1 9 rfl fun KK hK => ?_
           go_simp
           refine hK.out _ _ (HMK92.out _ HKX92.out) fun hHeld => ?_
           clear hK KK
           (try simp only [nz])
           refine on1 10 rfl fun KK hK => ?_
           have HE := Lib.hid (HC.out.roles HKX92.out HOZ.out)
           have v0 := (cf7 (HC.out.keeps HKX92.out).M).1
           have f0 := (cf7 (HC.out.keeps HKX92.out).M).2.1
           go_simp
           refine hK.out _ _ ⟨one_at HE.out.Y 4 _ rfl, one_at HE.out.Y 5 _ rfl⟩ (fun hHeld => ?_)
           clear hK KK v0 f0 HOZ
           (try simp only [nz])
           generalize (wZ.setCell ⟨vb, 0, none⟩ (.slice zo zn zc)) = wE at *
           refine wpAnyH_done (by kernel_rfl) ?_ _
           refine NoPanic.normal ?_
           clear hHeld HMK92 HKX92 HRSRC HBS
           have HN : Hid (WayI w0 wE vb (.slice zo zn zc) (.slice lo ln lc) (.slice (some ⟨b, 0, none⟩) 1 1) (sortO rolLt (R ++ [(ya1, ya2)])) Lk [((yh1, yh2), yk, yo, (ya1, ya2), (yb1, yb2), yi)]) := HE.out
           clear HE
           go_wp2_with fail
           go_meet
           exact ⟨rfl, _, _, _, HN⟩
         case p19X =>
          have HXL : Hid (wA.heap.size < (wA.alloc (bR ya1 ya2)).heap.size) := by rw [size_alloc]; show _ < _; omega
          have hkE : KF wA (wA.alloc (bR ya1 ya2)) := (Keeps.refl _ _).alloc _
          have HXR : Hid (SrcK rolE (wA.alloc (bR ya1 ya2)) (.slice (some ⟨wA.heap.size, 0, none⟩) 1 1) [(ya1, ya2)]) := one_srcK (E := rolE) wA (ya1, ya2) #[.string ⟨ya1.toArray⟩, .string ⟨ya2.toArray⟩] rfl
          try (replace HOW := Lib.hid (HOW.out.keeps hkE (fun _ _ z => z)))
          replace HKX92 := Lib.hid (HKX92.out.trans hkE)
          clear hkE
          go_simp
          refine hK.out _ _ (HMK92.out _ HKX92.out) fun hHeld => ?_
          clear hK KK
          (try simp only [nz])
          generalize (wA.alloc (bR ya1 ya2)) = wS27 at *
          obtain ⟨xb, hxb⟩ : ∃ xb, wA.heap.size = xb := ⟨_, rfl⟩
          (try simp only [hxb])
          (try simp only [hxb] at HXR)
          (try simp only [hxb] at HXL)
          (try simp only [hxb] at HXN)
          clear hxb
          refine on1 0 rfl fun KK hK => ?_
          have HXG : Hid (xb < wS27.heap.size) := HXL.out
          have HXQ : Hid (SrcK rolE (wS27.alloc (.cells #[] 28)) (.slice (some ⟨xb, 0, none⟩) 1 1) [(ya1, ya2)]) := HXR.out.keeps ((Keeps.refl (fun _ => False) wS27).alloc _)
          have HXN : Hid (¬ (Value.slice (some ⟨wS27.heap.size, 0, none⟩) 0 0).ownBlock = some xb) := fun e => by simp only [Value.ownBlock, Option.map_some, Option.some.injEq] at e; have := HXG.out; omega
          replace HXL : Hid (xb < (wS27.alloc (.cells #[] 28)).heap.size) := by have := HXG.out; rw [size_alloc]; show _ < _; omega
          replace HXR := HXQ
          clear HXQ HXG
          have hkE : KF wS27 (wS27.alloc (.cells #[] 28)) := (Keeps.refl _ _).alloc _
          have HOW : Hid (OwnK rolE bs (wS27.alloc (.cells #[] 28)) (.slice (some ⟨wS27.heap.size, 0, none⟩) 0 0) ([] : List Rol)) := ownK_lit rolE (by have := HKX92.out.size; have := HBS.out; omega)
          replace HKX92 := Lib.hid (HKX92.out.trans hkE)
          clear hkE
          go_simp
          refine hK.out _ _ (HMK92.out _ HKX92.out) fun hHeld => ?_
          clear hK KK
          (try simp only [nz])
          generalize (wS27.alloc (.cells #[] 28)) = wS28 at *
          obtain ⟨ev, hev⟩ : ∃ ev, Value.slice (some ⟨wS27.heap.size, 0, none⟩) 0 0 = ev := ⟨_, rfl⟩
          (try simp only [hev])
          (try simp only [hev] at HOW)
          (try simp only [hev] at HXN)
          clear hev
          refine on1 3 rfl fun KK hK => ?_
          have HXX : ∀ w' : World, Keeps (fun q => (ev : Value).ownBlock = some q) wS28 w' → SrcK rolE w' (.slice (some ⟨xb, 0, none⟩) 1 1) [(ya1, ya2)] := fun w' hk => by
           have q : RdX rolE wS28 (.slice (some ⟨xb, 0, none⟩) 1 1) [(ya1, ya2)] (fun k => (ev : Value).ownBlock ≠ some k) := ⟨HXR.out, fun k e => by
            simp only [Value.ownBlock, Option.map_some, Option.some.injEq] at e
            exact ⟨by rw [← e]; exact HXL.out, fun e2 => by have := HXN.out; exact this (by rw [e]; exact e2)⟩⟩
           exact (q.keeps hk (fun q _ hp e => hp e)).1
          have hlo : bs ≤ wS28.heap.size := by have := HKX92.out.size; have := HBS.out; omega
          refine step_app_k (E := rolE) rfl (.tmp 44) (.tmp 46) rfl bs ev [] (by simp [Act.eval, Act.put] <;> rfl) HOW.out _ R (by simp [Act.eval, Act.put] <;> rfl) (HRSRC.out.keeps HKX92.out) (by have := HRLE.out; simp; omega) hlo ?_
          intro evS29 wS29 ho hk
          have hk0 : KF w4 wS29 := HKX92.out.trans_new hk (fun q hq e => by have := own_block HOW.out q e; have := HBS.out; omega)
          have hxk : SrcK rolE wS29 (.slice (some ⟨xb, 0, none⟩) 1 1) [(ya1, ya2)] := (HXX wS29 hk)
          replace HKX92 := Lib.hid hk0
          replace HOW := Lib.hid ho
          replace HXR := Lib.hid hxk
          clear hxk
          clear hk0 hk ho hlo
          (try go_simp)
          refine hK.out _ _ (HMK92.out _ HKX92.out) fun hHeld => ?_
          clear hK KK
          (try simp only [nz])
          clear HXX HXL HXN
          refine on1 7 rfl fun KK hK => ?_
          have hlo : bs ≤ wS29.heap.size := by have := HKX92.out.size; have := HBS.out; omega
          refine step_app_k (E := rolE) rfl (.tmp 47) (.tmp 50) rfl bs evS29 ([] ++ R) (by simp [Act.eval, Act.put] <;> rfl) HOW.out _ [(ya1, ya2)] (by simp [Act.eval, Act.put] <;> rfl) HXR.out (by have := HRLE.out; simp; omega) hlo ?_
          intro evY wY ho hk
          have hk0 : KF w4 wY := HKX92.out.trans_new hk (fun q hq e => by have := own_block HOW.out q e; have := HBS.out; omega)
          replace HKX92 := Lib.hid hk0
          replace HOW := Lib.hid ho
          clear hk0 hk ho hlo
          (try go_simp)
          refine hK.out _ _ (HMK92.out _ HKX92.out) fun hHeld => ?_
          clear hK KK
          (try simp only [nz])
          have HSR := Lib.hid (rsortr_spec (rdk_r.1 HOW.out.reads) (by have := HRLE.out; simp only [List.nil_append, List.length_append, List.length_cons, List.length_nil]; omega))
          refine on1 8 rfl fun KK hK => ?_
          go_simp
          refine HSR.out.mono ?_
          rintro e wZ ⟨vZ, rfl, hk⟩
          have HOZ : Hid (OwnK rolE w4.heap.size wZ vZ (sortO rolLt (R ++ [(ya1, ya2)]))) := by
           have q := hk.out.2
           rw [List.nil_append] at q
           exact q.base (by have := HKX92.out.size; omega)
          replace HKX92 := Lib.hid (HKX92.out.trans hk.out.1)
          obtain ⟨zo, zc, hvz, _⟩ := id HOZ.out.reads
          obtain ⟨zn, hzn⟩ : ∃ n, (sortO rolLt (R ++ [(ya1, ya2)])).length = n := ⟨_, rfl⟩
          rw [hzn] at hvz
          subst hvz
          clear hk HSR hzn HOW HXR
          go_simp
          refine hK.out _ _ (HMK92.out _ HKX92.out) fun hHeld => ?_
          clear hK KK
          (try simp only [nz])
          refine on1 9 rfl fun KK hK => ?_
          go_simp
          refine hK.out _ _ (HMK92.out _ HKX92.out) fun hHeld => ?_
          clear hK KK
          (try simp only [nz])
          refine on1 10 rfl fun KK hK => ?_
          have HE := Lib.hid (HC.out.roles HKX92.out HOZ.out)
          have v0 := (cf7 (HC.out.keeps HKX92.out).M).1
          have f0 := (cf7 (HC.out.keeps HKX92.out).M).2.1
          go_simp
          refine hK.out _ _ ⟨one_at HE.out.Y 4 _ rfl, one_at HE.out.Y 5 _ rfl⟩ (fun hHeld => ?_)
          clear hK KK v0 f0 HOZ
          (try simp only [nz])
          generalize (wZ.setCell ⟨vb, 0, none⟩ (.slice zo zn zc)) = wE at *
          refine wpAnyH_done (by kernel_rfl) ?_ _
          refine NoPanic.normal ?_
          clear hHeld HMK92 HKX92 HRSRC HBS
          have HN : Hid (WayI w0 wE vb (.slice zo zn zc) (.slice lo ln lc) (.slice (some ⟨b, 0, none⟩) 1 1) (sortO rolLt (R ++ [(ya1, ya2)])) Lk [((yh1, yh2), yk, yo, (ya1, ya2), (yb1, yb2), yi)]) := HE.out
          clear HE
          go_wp2_with fail
          go_meet
          exact ⟨rfl, _, _, _, HN⟩
        case p3X =>
         have HXL : Hid (wA.heap.size < (wA.alloc (bR ya1 ya2)).heap.size) := by rw [size_alloc]; show _ < _; omega
         have hkE : KF wA (wA.alloc (bR ya1 ya2)) := (Keeps.refl _ _).alloc _
         have HXR : Hid (SrcK rolE (wA.alloc (bR ya1 ya2)) (.slice (some ⟨wA.heap.size, 0, none⟩) 1 1) [(ya1, ya2)]) := one_srcK (E := rolE) wA (ya1, ya2) #[.string ⟨ya1.toArray⟩, .string ⟨ya2.toArray⟩] rfl
         try (replace HOW := Lib.hid (HOW.out.keeps hkE (fun _ _ z => z)))
         replace HKX92 := Lib.hid (HKX92.out.trans hkE)
         clear hkE
         go_simp
         refine hK.out _ _ (HMK92.out _ HKX92.out) fun hHeld => ?_
         clear hK KK
         (try simp only [nz])
         generalize (wA.alloc (bR ya1 ya2)) = wS30 at *
         obtain ⟨xb, hxb⟩ : ∃ xb, wA.heap.size = xb := ⟨_, rfl⟩
         (try simp only [hxb])
         (try simp only [hxb] at HXR)
         (try simp only [hxb] at HXL)
         (try simp only [hxb] at HXN)
         clear hxb
         refine wpAnyH_two (i := 0) (j := 2) (by kernel_rfl) rfl rfl (fun KK hK => ?p31X) (fun KK hK => ?p32X)
         case p31X =>
          have HXG : Hid (xb < wS30.heap.size) := HXL.out
          have HXQ : Hid (SrcK rolE (wS30.alloc (.cells #[] 28)) (.slice (some ⟨xb, 0, none⟩) 1 1) [(ya1, ya2)]) := HXR.out.keeps ((Keeps.refl (fun _ => False) wS30).alloc _)
          have HXN : Hid (¬ (Value.slice (some ⟨wS30.heap.size, 0, none⟩) 0 0).ownBlock = some xb) := fun e => by simp only [Value.ownBlock, Option.map_some, Option.some.injEq] at e; have := HXG.out; omega
          replace HXL : Hid (xb < (wS30.alloc (.cells #[] 28)).heap.size) := by have := HXG.out; rw [size_alloc]; show _ < _; omega
          replace HXR := HXQ
          clear HXQ HXG
          have hkE : KF wS30 (wS30.alloc (.cells #[] 28)) := (Keeps.refl _ _).alloc _
          have HOW : Hid (OwnK rolE bs (wS30.alloc (.cells #[] 28)) (.slice (some ⟨wS30.heap.size, 0, none⟩) 0 0) ([] : List Rol)) := ownK_lit rolE (by have := HKX92.out.size; have := HBS.out; omega)
          replace HKX92 := Lib.hid (HKX92.out.trans hkE)
          clear hkE
          go_simp
          refine hK.out _ _ (HMK92.out _ HKX92.out) fun hHeld => ?_
          clear hK KK
          (try simp only [nz])
          generalize (wS30.alloc (.cells #[] 28)) = wS33 at *
          obtain ⟨ev, hev⟩ : ∃ ev, Value.slice (some ⟨wS30.heap.size, 0, none⟩) 0 0 = ev := ⟨_, rfl⟩
          (try simp only [hev])
          (try simp only [hev] at HOW)
          (try simp only [hev] at HXN)
          clear hev
          refine on1 2 rfl fun KK hK => ?_
          have v0 : wS33.cell? ⟨vb, 0, none⟩ = some (.slice ro rn rc) := (HKX92.out.cell (p := ⟨vb, 0, none⟩) (lt_of_heap HC.out.M) (fun x => x)).trans (cf7 HC.out.M).1
          go_simp
          refine hK.out _ _ (HMK92.out _ HKX92.out) fun hHeld => ?_
          clear hK KK
          (try simp only [nz])
          clear v0
          refine on1 3 rfl fun KK hK => ?_
          have HXX : ∀ w' : World, Keeps (fun q => (ev : Value).ownBlock = some q) wS33 w' → SrcK rolE w' (.slice (some ⟨xb, 0, none⟩) 1 1) [(ya1, ya2)] := fun w' hk => by
           have q : RdX rolE wS33 (.slice (some ⟨xb, 0, none⟩) 1 1) [(ya1, ya2)] (fun k => (ev : Value).ownBlock ≠ some k) := ⟨HXR.out, fun k e => by
            simp only [Value.ownBlock, Option.map_some, Option.some.injEq] at e
            exact ⟨by rw [← e]; exact HXL.out, fun e2 => by have := HXN.out; exact this (by rw [e]; exact e2)⟩⟩
           exact (q.keeps hk (fun q _ hp e => hp e)).1
          have hlo : bs ≤ wS33.heap.size := by have := HKX92.out.size; have := HBS.out; omega
          refine step_app_k (E := rolE) rfl (.tmp 44) (.tmp 46) rfl bs ev [] (by simp [Act.eval, Act.put] <;> rfl) HOW.out _ R (by simp [Act.eval, Act.put] <;> rfl) (HRSRC.out.keeps HKX92.out) (by have := HRLE.out; simp; omega) hlo ?_
          intro evS35 wS35 ho hk
          have hk0 : KF w4 wS35 := HKX92.out.trans_new hk (fun q hq e => by have := own_block HOW.out q e; have := HBS.out; omega)
          have hxk : SrcK rolE wS35 (.slice (some ⟨xb, 0, none⟩) 1 1) [(ya1, ya2)] := (HXX wS35 hk)
          replace HKX92 := Lib.hid hk0
          replace HOW := Lib.hid ho
          replace HXR := Lib.hid hxk
          clear hxk
          clear hk0 hk ho hlo
          (try go_simp)
          refine hK.out _ _ (HMK92.out _ HKX92.out) fun hHeld => ?_
          clear hK KK
          (try simp only [nz])
          clear HXX HXL HXN
          refine on1 7 rfl fun KK hK => ?_
          have hlo : bs ≤ wS35.heap.size := by have := HKX92.out.size; have := HBS.out; omega
          refine step_app_k (E := rolE) rfl (.tmp 47) (.tmp 50) rfl bs evS35 ([] ++ R) (by simp [Act.eval, Act.put] <;> rfl) HOW.out _ [(ya1, ya2)] (by simp [Act.eval, Act.put] <;> rfl) HXR.out (by have := HRLE.out; simp; omega) hlo ?_
          intro evY wY ho hk
          have hk0 : KF w4 wY := HKX92.out.trans_new hk (fun q hq e => by have := own_block HOW.out q e; have := HBS.out; omega)
          replace HKX92 := Lib.hid hk0
          replace HOW := Lib.hid ho
          clear hk0 hk ho hlo
          (try go_simp)
          refine hK.out _ _ (HMK92.out _ HKX92.out) fun hHeld => ?_
          clear hK KK
          (try simp only [nz])
          have HSR := Lib.hid (rsortr_spec (rdk_r.1 HOW.out.reads) (by have := HRLE.out; simp only [List.nil_append, List.length_append, List.length_cons, List.length_nil]; omega))
          refine on1 8 rfl fun KK hK => ?_
          go_simp
          refine HSR.out.mono ?_
          rintro e wZ ⟨vZ, rfl, hk⟩
          have HOZ : Hid (OwnK rolE w4.heap.size wZ vZ (sortO rolLt (R ++ [(ya1, ya2)]))) := by
           have q := hk.out.2
           rw [List.nil_append] at q
           exact q.base (by have := HKX92.out.size; omega)
          replace HKX92 := Lib.hid (HKX92.out.trans hk.out.1)
          obtain ⟨zo, zc, hvz, _⟩ := id HOZ.out.reads
          obtain ⟨zn, hzn⟩ : ∃ n, (sortO rolLt (R ++ [(ya1, ya2)])).length = n := ⟨_, rfl⟩
          rw [hzn] at hvz
          subst hvz
          clear hk HSR hzn HOW HXR
          go_simp
          refine hK.out _ _ (HMK92.out _ HKX92.out) fun hHeld => ?_
          clear hK KK
          (try simp only [nz])
          refine on1 9 rfl fun KK hK => ?_
          go_simp
          refine hK.out _ _ (HMK92.out _ HKX92.out) fun hHeld => ?_
          clear hK KK
          (try simp only [nz])
          refine on1 10 rfl fun KK hK => ?_
          have HE := Lib.hid (HC.out.roles HKX92.out HOZ.out)
          have v0 := (cf7 (HC.out.keeps HKX92.out).M).1
          have f0 := (cf7 (HC.out.keeps HKX92.out).M).2.1
          go_simp
          refine hK.out _ _ ⟨one_at HE.out.Y 4 _ rfl, one_at HE.out.Y 5 _ rfl⟩ (fun hHeld => ?_)
          clear hK KK v0 f0 HOZ
          (try simp only [nz])
          generalize (wZ.setCell ⟨vb, 0, none⟩ (.slice zo zn zc)) = wE at *
          refine wpAnyH_done (by kernel_rfl) ?_ _
          refine NoPanic.normal ?_
          clear hHeld HMK92 HKX92 HRSRC HBS
          have HN : Hid (WayI w0 wE vb (.slice zo zn zc) (.slice lo ln lc) (.slice (some ⟨b, 0, none⟩) 1 1) (sortO rolLt (R ++ [(ya1, ya2)])) Lk [((yh1, yh2), yk, yo, (ya1, ya2), (yb1, yb2), yi)]) := HE.out
          clear HE
          go_wp2_with fail
          go_meet
          exact ⟨rfl, _, _, _, HN⟩
         case p32X =>
          have v0 : wS30.cell? ⟨vb, 0, none⟩ = some (.slice ro rn rc) := (HKX92.out.cell (p := ⟨vb, 0, none⟩) (lt_of_heap HC.out.M) (fun x => x)).trans (cf7 HC.out.M).1
          go_simp
          refine hK.out _ _ (HMK92.out _ HKX92.out) fun hHeld => ?_
          clear hK KK
          (try simp only [nz])
          clear v0
          refine on1 0 rfl fun KK hK => ?_
          have HXG : Hid (xb < wS30.heap.size) := HXL.out
          have HXQ : Hid (SrcK rolE (wS30.alloc (.cells #[] 28)) (.slice (some ⟨xb, 0, none⟩) 1 1) [(ya1, ya2)]) := HXR.out.keeps ((Keeps.refl (fun _ => False) wS30).alloc _)
          have HXN : Hid (¬ (Value.slice (some ⟨wS30.heap.size, 0, none⟩) 0 0).ownBlock = some xb) := fun e => by simp only [Value.ownBlock, Option.map_some, Option.some.injEq] at e; have := HXG.out; omega
          replace HXL : Hid (xb < (wS30.alloc (.cells #[] 28)).heap.size) := by have := HXG.out; rw [size_alloc]; show _ < _; omega
          replace HXR := HXQ
          clear HXQ HXG
          have hkE : KF wS30 (wS30.alloc (.cells #[] 28)) := (Keeps.refl _ _).alloc _
          have HOW : Hid (OwnK rolE bs (wS30.alloc (.cells #[] 28)) (.slice (some ⟨wS30.heap.size, 0, none⟩) 0 0) ([] : List Rol)) := ownK_lit rolE (by have := HKX92.out.size; have := HBS.out; omega)
          replace HKX92 := Lib.hid (HKX92.out.trans hkE)
          clear hkE
          go_simp
          refine hK.out _ _ (HMK92.out _ HKX92.out) fun hHeld => ?_
          clear hK KK
          (try simp only [nz])
          generalize (wS30.alloc (.cells #[] 28)) = wS37 at *
          obtain ⟨ev, hev⟩ : ∃ ev, Value.slice (some ⟨wS30.heap.size, 0, none⟩) 0 0 = ev := ⟨_, rfl⟩
          (try simp only [hev])
          (try simp only [hev] at HOW)
          (try simp only [hev] at HXN)
          clear hev
          refine on1 3 rfl fun KK hK => ?_
          have HXX : ∀ w' : World, Keeps (fun q => (ev : Value).ownBlock = some q) wS37 w' → SrcK rolE w' (.slice (some ⟨xb, 0, none⟩) 1 1) [(ya1, ya2)] := fun w' hk => by
           have q : RdX rolE wS37 (.slice (some ⟨xb, 0, none⟩) 1 1) [(ya1, ya2)] (fun k => (ev : Value).ownBlock ≠ some k) := ⟨HXR.out, fun k e => by
            simp only [Value.ownBlock, Option.map_some, Option.some.injEq] at e
            exact ⟨by rw [← e]; exact HXL.out, fun e2 => by have := HXN.out; exact this (by rw [e]; exact e2)⟩⟩
           exact (q.keeps hk (fun q _ hp e => hp e)).1
          have hlo : bs ≤ wS37.heap.size := by have := HKX92.out.size; have := HBS.out; omega
          refine step_app_k (E := rolE) rfl (.tmp 44) (.tmp 46) rfl bs ev [] (by simp [Act.eval, Act.put] <;> rfl) HOW.out _ R (by simp [Act.eval, Act.put] <;> rfl) (HRSRC.out.keeps HKX92.out) (by have := HRLE.out; simp; omega) hlo ?_
          intro evS38 wS38 ho hk
          have hk0 : KF w4 wS38 := HKX92.out.trans_new hk (fun q hq e => by have := own_block HOW.out q e; have := HBS.out; omega)
          have hxk : SrcK rolE wS38 (.slice (some ⟨xb, 0, none⟩) 1 1) [(ya1, ya2)] := (HXX wS38 hk)
          replace HKX92 := Lib.hid hk0
          replace HOW := Lib.hid ho
          replace HXR := Lib.hid hxk
          clear hxk
          clear hk0 hk ho hlo
          (try go_simp)
          refine hK.out _ _ (HMK92.out _ HKX92.out) fun hHeld => ?_
          clear hK KK
          (try simp only [nz])
          clear HXX HXL HXN
          refine on1 7 rfl fun KK hK => ?_
          have hlo : bs ≤ wS38.heap.size := by have := HKX92.out.size; have := HBS.out; omega
          refine step_app_k (E := rolE) rfl (.tmp 47) (.tmp 50) rfl bs evS38 ([] ++ R) (by simp [Act.eval, Act.put] <;> rfl) HOW.out _ [(ya1, ya2)] (by simp [Act.eval, Act.put] <;> rfl) HXR.out (by have := HRLE.out; simp; omega) hlo ?_
          intro evY wY ho hk
          have hk0 : KF w4 wY := HKX92.out.trans_new hk (fun q hq e => by have := own_block HOW.out q e; have := HBS.out; omega)
          replace HKX92 := Lib.hid hk0
          replace HOW := Lib.hid ho
          clear hk0 hk ho hlo
          (try go_simp)
          refine hK.out _ _ (HMK92.out _ HKX92.out) fun hHeld => ?_
          clear hK KK
          (try simp only [nz])
          have HSR := Lib.hid (rsortr_spec (rdk_r.1 HOW.out.reads) (by have := HRLE.out; simp only [List.nil_append, List.length_append, List.length_cons, List.length_nil]; omega))
          refine on1 8 rfl fun KK hK => ?_
          go_simp
          refine HSR.out.mono ?_
          rintro e wZ ⟨vZ, rfl, hk⟩
          have HOZ : Hid (OwnK rolE w4.heap.size wZ vZ (sortO rolLt (R ++ [(ya1, ya2)]))) := by
           have q := hk.out.2
           rw [List.nil_append] at q
           exact q.base (by have := HKX92.out.size; omega)
          replace HKX92 := Lib.hid (HKX92.out.trans hk.out.1)
          obtain ⟨zo, zc, hvz, _⟩ := id HOZ.out.reads
          obtain ⟨zn, hzn⟩ : ∃ n, (sortO rolLt (R ++ [(ya1, ya2)])).length = n := ⟨_, rfl⟩
          rw [hzn] at hvz
          subst hvz
          clear hk HSR hzn HOW HXR
          go_simp
          refine hK.out _ _ (HMK92.out _ HKX92.out) fun hHeld => ?_
          clear hK KK
          (try simp only [nz])
          refine on1 9 rfl fun KK hK => ?_
          go_simp
          refine hK.out _ _ (HMK92.out _ HKX92.out) fun hHeld => ?_
          clear hK KK
          (try simp only [nz])
          refine on1 10 rfl fun KK hK => ?_
          have HE := Lib.hid (HC.out.roles HKX92.out HOZ.out)
          have v0 := (cf7 (HC.out.keeps HKX92.out).M).1
          have f0 := (cf7 (HC.out.keeps HKX92.out).M).2.1
          go_simp
          refine hK.out _ _ ⟨one_at HE.out.Y 4 _ rfl, one_at HE.out.Y 5 _ rfl⟩ (fun hHeld => ?_)
          clear hK KK v0 f0 HOZ
          (try simp only [nz])
          generalize (wZ.setCell ⟨vb, 0, none⟩ (.slice zo zn zc)) = wE at *
          refine wpAnyH_done (by kernel_rfl) ?_ _
          refine NoPanic.normal ?_
          clear hHeld HMK92 HKX92 HRSRC HBS
          have HN : Hid (WayI w0 wE vb (.slice zo zn zc) (.slice lo ln lc) (.slice (some ⟨b, 0, none⟩) 1 1) (sortO rolLt (R ++ [(ya1, ya2)])) Lk [((yh1, yh2), yk, yo, (ya1, ya2), (yb1, yb2), yi)]) := HE.out
          clear HE
          go_wp2_with fail
          go_meet
          exact ⟨rfl, _, _, _, HN⟩
       case rest =>
        obtain ⟨rfl, ro, rn, rc, HD⟩ := hcut
        clear HC
        have hnx : (sortO rolLt (R ++ [(ya1, ya2)])).length ≤ 202 := by have := sortO_len2 rolLt (R ++ [(ya1, ya2)]); simp only [List.length_append, List.length_cons, List.length_nil] at this; omega
        by_cases hk4 : yk = 4
        case pos =>
         subst hk4
         have p0 := one_at HD.out.Y 0 _ rfl
         have p1 := one_at HD.out.Y 1 _ rfl
         have p2 := one_at HD.out.Y 2 _ rfl
         have p3 := one_at HD.out.Y 3 _ rfl
         have p4 := one_at HD.out.Y 4 _ rfl
         have p5 := one_at HD.out.Y 5 _ rfl
         have p6 := one_at HD.out.Y 6 _ rfl
         have p7 := one_at HD.out.Y 7 _ rfl
         have p8 := one_at HD.out.Y 8 _ rfl
         go_upto_if 56 with fail
         go_upto_region 11 with fail
         go_cut [30] from 30 to 76 (fun t wx => t = .int .i64 i ∧ ∃ (ro : Option Addr) (rn rc : Nat), Hid (WayI w0 wx vb (.slice ro rn rc) (.slice lo ln lc) (.slice (some ⟨b, 0, none⟩) 1 1) (sortO rolLt ((sortO rolLt (R ++ [(ya1, ya2)])) ++ [(yb1, yb2)])) Lk [((yh1, yh2), 4, yo, (ya1, ya2), (yb1, yb2), yi)]))
         case first =>
          obtain ⟨bs, hbs⟩ : ∃ q, wc.heap.size = q := ⟨_, rfl⟩
          have HBS := Lib.hid hbs
          have HRSRC := Lib.hid HD.out.R.1
          have HRLE : Hid ((sortO rolLt (R ++ [(ya1, ya2)])).length ≤ 300) := by show _ ≤ _; omega
          clear hbs
          have HMK145 : Hid (∀ w' : World, KF wc w' → w'.cell? ⟨b, 6, none⟩ = some (.string ⟨yb1.toArray⟩) ∧ w'.cell? ⟨b, 7, none⟩ = some (.string ⟨yb2.toArray⟩)) := fun w' hk => ⟨kc hk p6, kc hk p7⟩
          have HKX145 : Hid (KF wc wc.drew) := (Keeps.refl _ _).drew
          have hS0 := HMK145.out _ HKX145.out
          clear p6 p7
          refine wp_region_noPanic ?_
          refine wp_region_held_drew (S := (fun w' => w'.cell? ⟨b, 6, none⟩ = some (.string ⟨yb1.toArray⟩) ∧ w'.cell? ⟨b, 7, none⟩ = some (.string ⟨yb2.toArray⟩))) (by kernel_rfl) hS0 (fun hHeld => ?_)
          clear hS0
          generalize wc.drew = wA at *
          refine tk 1 rfl hHeld ?_
          refine tk 4 rfl hHeld ?_
          refine tk 5 rfl hHeld ?_
          (try simp only [nz])
          refine wpAnyH_three (i := 0) (j := 2) (k := 6) (by kernel_rfl) rfl rfl rfl (fun KK hK => ?p1X) (fun KK hK => ?p2X) (fun KK hK => ?p3X)
          case p1X =>
           have hkE : KF wA (wA.alloc (.cells #[] 28)) := (Keeps.refl _ _).alloc _
           have HOW : Hid (OwnK rolE bs (wA.alloc (.cells #[] 28)) (.slice (some ⟨wA.heap.size, 0, none⟩) 0 0) ([] : List Rol)) := ownK_lit rolE (by have := HKX145.out.size; have := HBS.out; omega)
           replace HKX145 := Lib.hid (HKX145.out.trans hkE)
           clear hkE
           go_simp
           refine hK.out _ _ (HMK145.out _ HKX145.out) fun hHeld => ?_
           clear hK KK
           (try simp only [nz])
           generalize (wA.alloc (.cells #[] 28)) = wS4 at *
           obtain ⟨ev, hev⟩ : ∃ ev, Value.slice (some ⟨wA.heap.size, 0, none⟩) 0 0 = ev := ⟨_, rfl⟩
           (try simp only [hev])
           (try simp only [hev] at HOW)
           clear hev
           refine wpAnyH_two (i := 2) (j := 6) (by kernel_rfl) rfl rfl (fun KK hK => ?p5X) (fun KK hK => ?p6X)
           case p5X =>
            have v0 : wS4.cell? ⟨vb, 0, none⟩ = some (.slice ro rn rc) := (HKX145.out.cell (p := ⟨vb, 0, none⟩) (lt_of_heap HD.out.M) (fun x => x)).trans (cf7 HD.out.M).1
            go_simp
            refine hK.out _ _ (HMK145.out _ HKX145.out) fun hHeld => ?_
            clear hK KK
            (try simp only [nz])
            clear v0
            refine wpAnyH_two (i := 3) (j := 6) (by kernel_rfl) rfl rfl (fun KK hK => ?p8X) (fun KK hK => ?p9X)
            case p8X =>
             have hlo : bs ≤ wS4.heap.size := by have := HKX145.out.size; have := HBS.out; omega
             refine step_app_k (E := rolE) rfl (.tmp 57) (.tmp 59) rfl bs ev [] (by simp [Act.eval, Act.put] <;> rfl) HOW.out _ (sortO rolLt (R ++ [(ya1, ya2)])) (by simp [Act.eval, Act.put] <;> rfl) (HRSRC.out.keeps HKX145.out) (by have := HRLE.out; simp; omega) hlo ?_
             intro evS10 wS10 ho hk
             have hk0 : KF wc wS10 := HKX145.out.trans_new hk (fun q hq e => by have := own_block HOW.out q e; have := HBS.out; omega)
             replace HKX145 := Lib.hid hk0
             replace HOW := Lib.hid ho
             clear hk0 hk ho hlo
             (try go_simp)
             refine hK.out _ _ (HMK145.out _ HKX145.out) fun hHeld => ?_
             clear hK KK
             (try simp only [nz])
             refine on1 6 rfl fun KK hK => ?_
             have hkE : KF wS10 (wS10.alloc (bR yb1 yb2)) := (Keeps.refl _ _).alloc _
             have HXR : Hid (SrcK rolE (wS10.alloc (bR yb1 yb2)) (.slice (some ⟨wS10.heap.size, 0, none⟩) 1 1) [(yb1, yb2)]) := one_srcK (E := rolE) wS10 (yb1, yb2) #[.string ⟨yb1.toArray⟩, .string ⟨yb2.toArray⟩] rfl
             replace HOW := Lib.hid (HOW.out.keeps hkE (fun _ _ z => z))
             replace HKX145 := Lib.hid (HKX145.out.trans hkE)
             clear hkE
             go_simp
             refine hK.out _ _ (HMK145.out _ HKX145.out) fun hHeld => ?_
             clear hK KK
             (try simp only [nz])
             generalize (wS10.alloc (bR yb1 yb2)) = wS11 at *
             obtain ⟨xb, hxb⟩ : ∃ xb, wS10.heap.size = xb := ⟨_, rfl⟩
             (try simp only [hxb])
             (try simp only [hxb] at HXR)
             clear hxb
             refine on1 7 rfl fun KK hK => ?_
             have hlo : bs ≤ wS11.heap.size := by have := HKX145.out.size; have := HBS.out; omega
             refine step_app_k (E := rolE) rfl (.tmp 60) (.tmp 63) rfl bs evS10 ([] ++ (sortO rolLt (R ++ [(ya1, ya2)]))) (by simp [Act.eval, Act.put] <;> rfl) HOW.out _ [(yb1, yb2)] (by simp [Act.eval, Act.put] <;> rfl) HXR.out (by have := HRLE.out; simp; omega) hlo ?_
             intro evY wY ho hk
             have hk0 : KF wc wY := HKX145.out.trans_new hk (fun q hq e => by have := own_block HOW.out q e; have := HBS.out; omega)
             replace HKX145 := Lib.hid hk0
             replace HOW := Lib.hid ho
             clear hk0 hk ho hlo
             (try go_simp)
             refine hK.out _ _ (HMK145.out _ HKX145.out) fun hHeld => ?_
             clear hK KK
             (try simp only [nz])
             have HSR := Lib.hid (rsortr_spec (rdk_r.1 HOW.out.reads) (by have := HRLE.out; simp only [List.nil_append, List.length_append, List.length_cons, List.length_nil]; omega))
             refine on1 8 rfl fun KK hK => ?_
             go_simp
             refine HSR.out.mono ?_
             rintro e wZ ⟨vZ, rfl, hk⟩
             have HOZ : Hid (OwnK rolE wc.heap.size wZ vZ (sortO rolLt ((sortO rolLt (R ++ [(ya1, ya2)])) ++ [(yb1, yb2)]))) := by
              have q := hk.out.2
              rw [List.nil_append] at q
              exact q.base (by have := HKX145.out.size; omega)
             replace HKX145 := Lib.hid (HKX145.out.trans hk.out.1)
             obtain ⟨zo, zc, hvz, _⟩ := id HOZ.out.reads
             obtain ⟨zn, hzn⟩ : ∃ n, (sortO rolLt ((sortO rolLt (R ++ [(ya1, ya2)])) ++ [(yb1, yb2)])).length = n := ⟨_, rfl⟩
             rw [hzn] at hvz
             subst hvz
             clear hk HSR hzn HOW HXR
             go_simp
             refine hK.out _ _ (HMK145.out _ HKX145.out) fun hHeld => ?_
             clear hK KK
             (try simp only [nz])
             refine on1 9 rfl fun KK hK => ?_
             go_simp
             refine hK.out _ _ (HMK145.out _ HKX145.out) fun hHeld => ?_
             clear hK KK
             (try simp only [nz])
             refine on1 10 rfl fun KK hK => ?_
             have HE := Lib.hid (HD.out.roles HKX145.out HOZ.out)
             have v0 := (cf7 (HD.out.keeps HKX145.out).M).1
             have f0 := (cf7 (HD.out.keeps HKX145.out).M).2.1
             go_simp
             refine hK.out _ _ ⟨one_at HE.out.Y 6 _ rfl, one_at HE.out.Y 7 _ rfl⟩ (fun hHeld => ?_)
             clear hK KK v0 f0 HOZ
             (try simp only [nz])
             generalize (wZ.setCell ⟨vb, 0, none⟩ (.slice zo zn zc)) = wE at *
             refine wpAnyH_done (by kernel_rfl) ?_ _
             refine NoPanic.normal ?_
             clear hHeld HMK145 HKX145 HRSRC HBS
             have HN : Hid (WayI w0 wE vb (.slice zo zn zc) (.slice lo ln lc) (.slice (some ⟨b, 0, none⟩) 1 1) (sortO rolLt ((sortO rolLt (R ++ [(ya1, ya2)])) ++ [(yb1, yb2)])) Lk [((yh1, yh2), 4, yo, (ya1, ya2), (yb1, yb2), yi)]) := HE.out
             clear HE
             go_wp2_with fail
             go_meet
             exact ⟨rfl, _, _, _, HN⟩
            case p9X =>
             have HXN : Hid (¬ ev.ownBlock = some wS4.heap.size) := fun e => by have := own_lt HOW.out _ e; omega
             have HXL : Hid (wS4.heap.size < (wS4.alloc (bR yb1 yb2)).heap.size) := by rw [size_alloc]; show _ < _; omega
             have hkE : KF wS4 (wS4.alloc (bR yb1 yb2)) := (Keeps.refl _ _).alloc _
             have HXR : Hid (SrcK rolE (wS4.alloc (bR yb1 yb2)) (.slice (some ⟨wS4.heap.size, 0, none⟩) 1 1) [(yb1, yb2)]) := one_srcK (E := rolE) wS4 (yb1, yb2) #[.string ⟨yb1.toArray⟩, .string ⟨yb2.toArray⟩] rfl
             try (replace HOW := Lib.hid (HOW.out.keeps hkE (fun _ _ z => z)))
             replace HKX145 := Lib.hid (HKX145.out.trans hkE)
             clear hkE
             go_simp
             refine hK.out _ _ (HMK145.out _ HKX145.out) fun hHeld => ?_
             clear hK KK
             (try simp only [nz])
             generalize (wS4.alloc (bR yb1 yb2)) = wS12 at *
             obtain ⟨xb, hxb⟩ : ∃ xb, wS4.heap.size = xb := ⟨_, rfl⟩
             (try simp only [hxb])
             (try simp only [hxb] at HXR)
             (try simp only [hxb] at HXL)
             (try simp only [hxb] at HXN)
             clear hxb
             refine on1 3 rfl fun KK hK => ?_
             have HXX : ∀ w' : World, Keeps (fun q => (ev : Value).ownBlock = some q) wS12 w' → SrcK rolE w' (.slice (some ⟨xb, 0, none⟩) 1 1) [(yb1, yb2)] := fun w' hk => by
              have q : RdX rolE wS12 (.slice (some ⟨xb, 0, none⟩) 1 1) [(yb1, yb2)] (fun k => (ev : Value).ownBlock ≠ some k) := ⟨HXR.out, fun k e => by
               simp only [Value.ownBlock, Option.map_some, Option.some.injEq] at e
               exact ⟨by rw [← e]; exact HXL.out, fun e2 => by have := HXN.out; exact this (by rw [e]; exact e2)⟩⟩
              exact (q.keeps hk (fun q _ hp e => hp e)).1
             have hlo : bs ≤ wS12.heap.size := by have := HKX145.out.size; have := HBS.out; omega
             refine step_app_k (E := rolE) rfl (.tmp 57) (.tmp 59) rfl bs ev [] (by simp [Act.eval, Act.put] <;> rfl) HOW.out _ (sortO rolLt (R ++ [(ya1, ya2)])) (by simp [Act.eval, Act.put] <;> rfl) (HRSRC.out.keeps HKX145.out) (by have := HRLE.out; simp; omega) hlo ?_
             intro evS13 wS13 ho hk
             have hk0 : KF wc wS13 := HKX145.out.trans_new hk (fun q hq e => by have := own_block HOW.out q e; have := HBS.out; omega)
             have hxk : SrcK rolE wS13 (.slice (some ⟨xb, 0, none⟩) 1 1) [(yb1, yb2)] := (HXX wS13 hk)
             replace HKX145 := Lib.hid hk0
             replace HOW := Lib.hid ho
             replace HXR := Lib.hid hxk
             clear hxk
             clear hk0 hk ho hlo
             (try go_simp)
             refine hK.out _ _ (HMK145.out _ HKX145.out) fun hHeld => ?_
             clear hK KK
             (try simp only [nz])
             clear HXX HXL HXN
             refine on1 7 rfl fun KK hK => ?_
             have hlo : bs ≤ wS13.heap.size := by have := HKX145.out.size; have := HBS.out; omega
             refine step_app_k (E := rolE) rfl (.tmp 60) (.tmp 63) rfl bs evS13 ([] ++ (sortO rolLt (R ++ [(ya1, ya2)]))) (by simp [Act.eval, Act.put] <;> rfl) HOW.out _ [(yb1, yb2)] (by simp [Act.eval, Act.put] <;> rfl) HXR.out (by have := HRLE.out; simp; omega) hlo ?_
             intro evY wY ho hk
             have hk0 : KF wc wY := HKX145.out.trans_new hk (fun q hq e => by have := own_block HOW.out q e; have := HBS.out; omega)
             replace HKX145 := Lib.hid hk0
             replace HOW := Lib.hid ho
             clear hk0 hk ho hlo
             (try go_simp)
             refine hK.out _ _ (HMK145.out _ HKX145.out) fun hHeld => ?_
             clear hK KK
             (try simp only [nz])
             have HSR := Lib.hid (rsortr_spec (rdk_r.1 HOW.out.reads) (by have := HRLE.out; simp only [List.nil_append, List.length_append, List.length_cons, List.length_nil]; omega))
             refine on1 8 rfl fun KK hK => ?_
             go_simp
             refine HSR.out.mono ?_
             rintro e wZ ⟨vZ, rfl, hk⟩
             have HOZ : Hid (OwnK rolE wc.heap.size wZ vZ (sortO rolLt ((sortO rolLt (R ++ [(ya1, ya2)])) ++ [(yb1, yb2)]))) := by
              have q := hk.out.2
              rw [List.nil_append] at q
              exact q.base (by have := HKX145.out.size; omega)
             replace HKX145 := Lib.hid (HKX145.out.trans hk.out.1)
             obtain ⟨zo, zc, hvz, _⟩ := id HOZ.out.reads
             obtain ⟨zn, hzn⟩ : ∃ n, (sortO rolLt ((sortO rolLt (R ++ [(ya1, ya2)])) ++ [(yb1, yb2)])).length = n := ⟨_, rfl⟩
             rw [hzn] at hvz
             subst hvz
             clear hk HSR hzn HOW HXR
             go_simp
             refine hK.out _ _ (HMK145.out _ HKX145.out) fun hHeld => ?_
             clear hK KK
             (try simp only [nz])
             refine on1 9 rfl fun KK hK => ?_
             go_simp
             refine hK.out _ _ (HMK145.out _ HKX145.out) fun hHeld => ?_
             clear hK KK
             (try simp only [nz])
             refine on1 10 rfl fun KK hK => ?_
             have HE := Lib.hid (HD.out.roles HKX145.out HOZ.out)
             have v0 := (cf7 (HD.out.keeps HKX145.out).M).1
             have f0 := (cf7 (HD.out.keeps HKX145.out).M).2.1
             go_simp
             refine hK.out _ _ ⟨one_at HE.out.Y 6 _ rfl, one_at HE.out.Y 7 _ rfl⟩ (fun hHeld => ?_)
             clear hK KK v0 f0 HOZ
             (try simp only [nz])
             generalize (wZ.setCell ⟨vb, 0, none⟩ (.slice zo zn zc)) = wE at *
             refine wpAnyH_done (by kernel_rfl) ?_ _
             refine NoPanic.normal ?_
             clear hHeld HMK145 HKX145 HRSRC HBS
             have HN : Hid (WayI w0 wE vb (.slice zo zn zc) (.slice lo ln lc) (.slice (some ⟨b, 0, none⟩) 1 1) (sortO rolLt ((sortO rolLt (R ++ [(ya1, ya2)])) ++ [(yb1, yb2)])) Lk [((yh1, yh2), 4, yo, (ya1, ya2), (yb1, yb2), yi)]) := HE.out
             clear HE
             go_wp2_with fail
             go_meet
             exact ⟨rfl, _, _, _, HN⟩
           case p6X =>
            have HXN : Hid (¬ ev.ownBlock = some wS4.heap.size) := fun e => by have := own_lt HOW.out _ e; omega
            have HXL : Hid (wS4.heap.size < (wS4.alloc (bR yb1 yb2)).heap.size) := by rw [size_alloc]; show _ < _; omega
            have hkE : KF wS4 (wS4.alloc (bR yb1 yb2)) := (Keeps.refl _ _).alloc _
            have HXR : Hid (SrcK rolE (wS4.alloc (bR yb1 yb2)) (.slice (some ⟨wS4.heap.size, 0, none⟩) 1 1) [(yb1, yb2)]) := one_srcK (E := rolE) wS4 (yb1, yb2) #[.string ⟨yb1.toArray⟩, .string ⟨yb2.toArray⟩] rfl
            try (replace HOW := Lib.hid (HOW.out.keeps hkE (fun _ _ z => z)))
            replace HKX145 := Lib.hid (HKX145.out.trans hkE)
            clear hkE
            go_simp
            refine hK.out _ _ (HMK145.out _ HKX145.out) fun hHeld => ?_
            clear hK KK
            (try simp only [nz])
            generalize (wS4.alloc (bR yb1 yb2)) = wS14 at *
            obtain ⟨xb, hxb⟩ : ∃ xb, wS4.heap.size = xb := ⟨_, rfl⟩
            (try simp only [hxb])
            (try simp only [hxb] at HXR)
            (try simp only [hxb] at HXL)
            (try simp only [hxb] at HXN)
            clear hxb
            refine on1 2 rfl fun KK hK => ?_
            have v0 : wS14.cell? ⟨vb, 0, none⟩ = some (.slice ro rn rc) := (HKX145.out.cell (p := ⟨vb, 0, none⟩) (lt_of_heap HD.out.M) (fun x => x)).trans (cf7 HD.out.M).1
            go_simp
            refine hK.out _ _ (HMK145.out _ HKX145.out) fun hHeld => ?_
            clear hK KK
            (try simp only [nz])
            clear v0
            refine on1 3 rfl fun KK hK => ?_
            have HXX : ∀ w' : World, Keeps (fun q => (ev : Value).ownBlock = some q) wS14 w' → SrcK rolE w' (.slice (some ⟨xb, 0, none⟩) 1 1) [(yb1, yb2)] := fun w' hk => by
             have q : RdX rolE wS14 (.slice (some ⟨xb, 0, none⟩) 1 1) [(yb1, yb2)] (fun k => (ev : Value).ownBlock ≠ some k) := ⟨HXR.out, fun k e => by
              simp only [Value.ownBlock, Option.map_some, Option.some.injEq] at e
              exact ⟨by rw [← e]; exact HXL.out, fun e2 => by have := HXN.out; exact this (by rw [e]; exact e2)⟩⟩
             exact (q.keeps hk (fun q _ hp e => hp e)).1
            have hlo : bs ≤ wS14.heap.size := by have := HKX145.out.size; have := HBS.out; omega
            refine step_app_k (E := rolE) rfl (.tmp 57) (.tmp 59) rfl bs ev [] (by simp [Act.eval, Act.put] <;> rfl) HOW.out _ (sortO rolLt (R ++ [(ya1, ya2)])) (by simp [Act.eval, Act.put] <;> rfl) (HRSRC.out.keeps HKX145.out) (by have := HRLE.out; simp; omega) hlo ?_
            intro evS16 wS16 ho hk
            have hk0 : KF wc wS16 := HKX145.out.trans_new hk (fun q hq e => by have := own_block HOW.out q e; have := HBS.out; omega)
            have hxk : SrcK rolE wS16 (.slice (some ⟨xb, 0, none⟩) 1 1) [(yb1, yb2)] := (HXX wS16 hk)
            replace HKX145 := Lib.hid hk0
            replace HOW := Lib.hid ho
            replace HXR := Lib.hid hxk
            clear hxk
            clear hk0 hk ho hlo
            (try go_simp)
            refine hK.out _ _ (HMK145.out _ HKX145.out) fun hHeld => ?_
            clear hK KK
            (try simp only [nz])
            clear HXX HXL HXN
            refine on1 7 rfl fun KK hK => ?_
            have hlo : bs ≤ wS16.heap.size := by have := HKX145.out.size; have := HBS.out; omega
            refine step_app_k (E := rolE) rfl (.tmp 60) (.tmp 63) rfl bs evS16 ([] ++ (sortO rolLt (R ++ [(ya1, ya2)]))) (by simp [Act.eval, Act.put] <;> rfl) HOW.out _ [(yb1, yb2)] (by simp [Act.eval, Act.put] <;> rfl) HXR.out (by have := HRLE.out; simp; omega) hlo ?_
            intro evY wY ho hk
            have hk0 : KF wc wY := HKX145.out.trans_new hk (fun q hq e => by have := own_block HOW.out q e; have := HBS.out; omega)
            replace HKX145 := Lib.hid hk0
            replace HOW := Lib.hid ho
            clear hk0 hk ho hlo
            (try go_simp)
            refine hK.out _ _ (HMK145.out _ HKX145.out) fun hHeld => ?_
            clear hK KK
            (try simp only [nz])
            have HSR := Lib.hid (rsortr_spec (rdk_r.1 HOW.out.reads) (by have := HRLE.out; simp only [List.nil_append, List.length_append, List.length_cons, List.length_nil]; omega))
            refine on1 8 rfl fun KK hK => ?_
            go_simp
            refine HSR.out.mono ?_
            rintro e wZ ⟨vZ, rfl, hk⟩
            have HOZ : Hid (OwnK rolE wc.heap.size wZ vZ (sortO rolLt ((sortO rolLt (R ++ [(ya1, ya2)])) ++ [(yb1, yb2)]))) := by
             have q := hk.out.2
             rw [List.nil_append] at q
             exact q.base (by have := HKX145.out.size; omega)
            replace HKX145 := Lib.hid (HKX145.out.trans hk.out.1)
            obtain ⟨zo, zc, hvz, _⟩ := id HOZ.out.reads
            obtain ⟨zn, hzn⟩ : ∃ n, (sortO rolLt ((sortO rolLt (R ++ [(ya1, ya2)])) ++ [(yb1, yb2)])).length = n := ⟨_, rfl⟩
            rw [hzn] at hvz
            subst hvz
            clear hk HSR hzn HOW HXR
            go_simp
            refine hK.out _ _ (HMK145.out _ HKX145.out) fun hHeld => ?_
            clear hK KK
            (try simp only [nz])
            refine on1 9 rfl fun KK hK => ?_
            go_simp
            refine hK.out _ _ (HMK145.out _ HKX145.out) fun hHeld => ?_
            clear hK KK
            (try simp only [nz])
            refine on1 10 rfl fun KK hK => ?_
            have HE := Lib.hid (HD.out.roles HKX145.out HOZ.out)
            have v0 := (cf7 (HD.out.keeps HKX145.out).M).1
            have f0 := (cf7 (HD.out.keeps HKX145.out).M).2.1
            go_simp
            refine hK.out _ _ ⟨one_at HE.out.Y 6 _ rfl, one_at HE.out.Y 7 _ rfl⟩ (fun hHeld => ?_)
            clear hK KK v0 f0 HOZ
            (try simp only [nz])
            generalize (wZ.setCell ⟨vb, 0, none⟩ (.slice zo zn zc)) = wE at *
            refine wpAnyH_done (by kernel_rfl) ?_ _
            refine NoPanic.normal ?_
            clear hHeld HMK145 HKX145 HRSRC HBS
            have HN : Hid (WayI w0 wE vb (.slice zo zn zc) (.slice lo ln lc) (.slice (some ⟨b, 0, none⟩) 1 1) (sortO rolLt ((sortO rolLt (R ++ [(ya1, ya2)])) ++ [(yb1, yb2)])) Lk [((yh1, yh2), 4, yo, (ya1, ya2), (yb1, yb2), yi)]) := HE.out
            clear HE
            go_wp2_with fail
            go_meet
            exact ⟨rfl, _, _, _, HN⟩
          case p2X =>
           have v0 : wA.cell? ⟨vb, 0, none⟩ = some (.slice ro rn rc) := (HKX145.out.cell (p := ⟨vb, 0, none⟩) (lt_of_heap HD.out.M) (fun x => x)).trans (cf7 HD.out.M).1
           go_simp
           refine hK.out _ _ (HMK145.out _ HKX145.out) fun hHeld => ?_
           clear hK KK
           (try simp only [nz])
           clear v0
           refine wpAnyH_two (i := 0) (j := 6) (by kernel_rfl) rfl rfl (fun KK hK => ?p18X) (fun KK hK => ?p19X)
           case p18X =>
            have hkE : KF wA (wA.alloc (.cells #[] 28)) := (Keeps.refl _ _).alloc _
            have HOW : Hid (OwnK rolE bs (wA.alloc (.cells #[] 28)) (.slice (some ⟨wA.heap.size, 0, none⟩) 0 0) ([] : List Rol)) := ownK_lit rolE (by have := HKX145.out.size; have := HBS.out; omega)
            replace HKX145 := Lib.hid (HKX145.out.trans hkE)
            clear hkE
            go_simp
            refine hK.out _ _ (HMK145.out _ HKX145.out) fun hHeld => ?_
            clear hK KK
            (try simp only [nz])
            generalize (wA.alloc (.cells #[] 28)) = wS20 at *
            obtain ⟨ev, hev⟩ : ∃ ev, Value.slice (some ⟨wA.heap.size, 0, none⟩) 0 0 = ev := ⟨_, rfl⟩
            (try simp only [hev])
            (try simp only [hev] at HOW)
            clear hev
            refine wpAnyH_two (i := 3) (j := 6) (by kernel_rfl) rfl rfl (fun KK hK => ?p21X) (fun KK hK => ?p22X)
            case p21X =>
             have hlo : bs ≤ wS20.heap.size := by have := HKX145.out.size; have := HBS.out; omega
             refine step_app_k (E := rolE) rfl (.tmp 57) (.tmp 59) rfl bs ev [] (by simp [Act.eval, Act.put] <;> rfl) HOW.out _ (sortO rolLt (R ++ [(ya1, ya2)])) (by simp [Act.eval, Act.put] <;> rfl) (HRSRC.out.keeps HKX145.out) (by have := HRLE.out; simp; omega) hlo ?_
             intro evS23 wS23 ho hk
             have hk0 : KF wc wS23 := HKX145.out.trans_new hk (fun q hq e => by have := own_block HOW.out q e; have := HBS.out; omega)
             replace HKX145 := Lib.hid hk0
             replace HOW := Lib.hid ho
             clear hk0 hk ho hlo
             (try go_simp)
             refine hK.out _ _ (HMK145.out _ HKX145.out) fun hHeld => ?_
             clear hK KK
             (try simp only [nz])
             refine on1 6 rfl fun KK hK => ?_
             have hkE : KF wS23 (wS23.alloc (bR yb1 yb2)) := (Keeps.refl _ _).alloc _
             have HXR : Hid (SrcK rolE (wS23.alloc (bR yb1 yb2)) (.slice (some ⟨wS23.heap.size, 0, none⟩) 1 1) [(yb1, yb2)]) := one_srcK (E := rolE) wS23 (yb1, yb2) #[.string ⟨yb1.toArray⟩, .string ⟨yb2.toArray⟩] rfl
             replace HOW := Lib.hid (HOW.out.keeps hkE (fun _ _ z => z))
             replace HKX145 := Lib.hid (HKX145.out.trans hkE)
             clear hkE
             go_simp
             refine hK.out _ _ (HMK145.out _ HKX145.out) fun hHeld => ?_
             clear hK KK
             (try simp only [nz])
             generalize (wS23.alloc (bR yb1 yb2)) = wS24 at *
             obtain ⟨xb, hxb⟩ : ∃ xb, wS23.heap.size = xb := ⟨_, rfl⟩
             (try simp only [hxb])
             (try simp only [hxb] at HXR)
             clear hxb
             refine on1 7 rfl fun KK hK => ?_
             have hlo : bs ≤ wS24.heap.size := by have := HKX145.out.size; have := HBS.out; omega
             refine step_app_k (E := rolE) rfl (.tmp 60) (.tmp 63) rfl bs evS23 ([] ++ (sortO rolLt (R ++ [(ya1, ya2)]))) (by simp [Act.eval, Act.put] <;> rfl) HOW.out _ [(yb1, yb2)] (by simp [Act.eval, Act.put] <;> rfl) HXR.out (by have := HRLE.out; simp; omega) hlo ?_
             intro evY wY ho hk
             have hk0 : KF wc wY := HKX145.out.trans_new hk (fun q hq e => by have := own_block HOW.out q e; have := HBS.out; omega)
             replace HKX145 := Lib.hid hk0
             replace HOW := Lib.hid ho
             clear hk0 hk ho hlo
             (try go_simp)
             refine hK.out _ _ (HMK145.out _ HKX145.out) fun hHeld => ?_
             clear hK KK
             (try simp only [nz])
             have HSR := Lib.hid (rsortr_spec (rdk_r.1 HOW.out.reads) (by have := HRLE.out; simp only [List.nil_append, List.length_append, List.length_cons, List.length_nil]; omega))
             refine on1 8 rfl fun KK hK => ?_
             go_simp
             refine HSR.out.mono ?_
             rintro e wZ ⟨vZ, rfl, hk⟩
             have HOZ : Hid (OwnK rolE wc.heap.size wZ vZ (sortO rolLt ((sortO rolLt (R ++ [(ya1, ya2)])) ++ [(yb1, yb2)]))) := by
              have q := hk.out.2
              rw [List.nil_append] at q
              exact q.base (by have := HKX145.out.size; omega)
             replace HKX145 := Lib.hid (HKX145.out.trans hk.out.1)
             obtain ⟨zo, zc, hvz, _⟩ := id HOZ.out.reads
             obtain ⟨zn, hzn⟩ : ∃ n, (sortO rolLt ((sortO rolLt (R ++ [(ya1, ya2)])) ++ [(yb1, yb2)])).length = n := ⟨_, rfl⟩
             rw [hzn] at hvz
             subst hvz
             clear hk HSR hzn HOW HXR
             go_simp
             refine hK.out _ _ (HMK145.out _ HKX145.out) fun hHeld => ?_
             clear hK KK
             (try simp only [nz])
             refine on1 9 rfl fun KK hK => ?_
             go_simp
             refine hK.out _ _ (HMK145.out _ HKX145.out) fun hHeld => ?_
             clear hK KK
             (try simp only [nz])
             refine on1 10 rfl fun KK hK => ?_
             have HE := Lib.hid (HD.out.roles HKX145.out HOZ.out)
             have v0 := (cf7 (HD.out.keeps HKX145.out).M).1
             have f0 := (cf7 (HD.out.keeps HKX145.out).M).2.1
             go_simp
             refine hK.out _ _ ⟨one_at HE.out.Y 6 _ rfl, one_at HE.out.Y 7 _ rfl⟩ (fun hHeld => ?_)
             clear hK KK v0 f0 HOZ
             (try simp only [nz])
             generalize (wZ.setCell ⟨vb, 0, none⟩ (.slice zo zn zc)) = wE at *
             refine wpAnyH_done (by kernel_rfl) ?_ _
             refine NoPanic.normal ?_
             clear hHeld HMK145 HKX145 HRSRC HBS
             have HN : Hid (WayI w0 wE vb (.slice zo zn zc) (.slice lo ln lc) (.slice (some ⟨b, 0, none⟩) 1 1) (sortO rolLt ((sortO rolLt (R ++ [(ya1, ya2)])) ++ [(yb1, yb2)])) Lk [((yh1, yh2), 4, yo, (ya1, ya2), (yb1, yb2), yi)]) := HE.out
             clear HE
             go_wp2_with fail
             go_meet
             exact ⟨rfl, _, _, _, HN⟩
            case p22X =>
             have HXN : Hid (¬ ev.ownBlock = some wS20.heap.size) := fun e => by have := own_lt HOW.out _ e; omega
             have HXL : Hid (wS20.heap.size < (wS20.alloc (bR yb1 yb2)).heap.size) := by rw [size_alloc]; show _ < _; omega
             have hkE : KF wS20 (wS20.alloc (bR yb1 yb2)) := (Keeps.refl _ _).alloc _
             have HXR : Hid (SrcK rolE (wS20.alloc (bR yb1 yb2)) (.slice (some ⟨wS20.heap.size, 0, none⟩) 1 1) [(yb1, yb2)]) := one_srcK (E := rolE) wS20 (yb1, yb2) #[.string ⟨yb1.toArray⟩, .string ⟨yb2.toArray⟩] rfl
             try (replace HOW := Lib.hid (HOW.out.keeps hkE (fun _ _ z => z)))
             replace HKX145 := Lib.hid (HKX145.out.trans hkE)
             clear hkE
             go_simp
             refine hK.out _ _ (HMK145.out _ HKX145.out) fun hHeld => ?_
             clear hK KK
             (try simp only [nz])
             generalize (wS20.alloc (bR yb1 yb2)) = wS25 at *
             obtain ⟨xb, hxb⟩ : ∃ xb, wS20.heap.size = xb := ⟨_, rfl⟩
             (try simp only [hxb])
             (try simp only [hxb] at HXR)
             (try simp only [hxb] at HXL)
             (try simp only [hxb] at HXN)
             clear hxb
             refine on1 3 rfl fun KK hK => ?_
             have HXX : ∀ w' : World, Keeps (fun q => (ev : Value).ownBlock = some q) wS25 w' → SrcK rolE w' (.slice (some ⟨xb, 0, none⟩) 1 1) [(yb1, yb2)] := fun w' hk => by
              have q : RdX rolE wS25 (.slice (some ⟨xb, 0, none⟩) 1 1) [(yb1, yb2)] (fun k => (ev : Value).ownBlock ≠ some k) := ⟨HXR.out, fun k e => by
               simp only [Value.ownBlock, Option.map_some, Option.some.injEq] at e
               exact ⟨by rw [← e]; exact HXL.out, fun e2 => by have := HXN.out; exact this (by rw [e]; exact e2)⟩⟩
              exact (q.keeps hk (fun q _ hp e => hp e)).1
             have hlo : bs ≤ wS25.heap.size := by have := HKX145.out.size; have := HBS.out; omega
             refine step_app_k (E := rolE) rfl (.tmp 57) (.tmp 59) rfl bs ev [] (by simp [Act.eval, Act.put] <;> rfl) HOW.out _ (sortO rolLt (R ++ [(ya1, ya2)])) (by simp [Act.eval, Act.put] <;> rfl) (HRSRC.out.keeps HKX145.out) (by have := HRLE.out; simp; omega) hlo ?_
             intro evS26 wS26 ho hk
             have hk0 : KF wc wS26 := HKX145.out.trans_new hk (fun q hq e => by have := own_block HOW.out q e; have := HBS.out; omega)
             have hxk : SrcK rolE wS26 (.slice (some ⟨xb, 0, none⟩) 1 1) [(yb1, yb2)] := (HXX wS26 hk)
             replace HKX145 := Lib.hid hk0
             replace HOW := Lib.hid ho
             replace HXR := Lib.hid hxk
             clear hxk
             clear hk0 hk ho hlo
             (try go_simp)
             refine hK.out _ _ (HMK145.out _ HKX145.out) fun hHeld => ?_
             clear hK KK
             (try simp only [nz])
             clear HXX HXL HXN
             refine on1 7 rfl fun KK hK => ?_
             have hlo : bs ≤ wS26.heap.size := by have := HKX145.out.size; have := HBS.out; omega
             refine step_app_k (E := rolE) rfl (.tmp 60) (.tmp 63) rfl bs evS26 ([] ++ (sortO rolLt (R ++ [(ya1, ya2)]))) (by simp [Act.eval, Act.put] <;> rfl) HOW.out _ [(yb1, yb2)] (by simp [Act.eval, Act.put] <;> rfl) HXR.out (by have := HRLE.out; simp; omega) hlo ?_
             intro evY wY ho hk
             have hk0 : KF wc wY := HKX145.out.trans_new hk (fun q hq e => by have := own_block HOW.out q e; have := HBS.out; omega)
             replace HKX145 := Lib.hid hk0
             replace HOW := Lib.hid ho
             clear hk0 hk ho hlo
             (try go_simp)
             refine hK.out _ _ (HMK145.out _ HKX145.out) fun hHeld => ?_
             clear hK KK
             (try simp only [nz])
             have HSR := Lib.hid (rsortr_spec (rdk_r.1 HOW.out.reads) (by have := HRLE.out; simp only [List.nil_append, List.length_append, List.length_cons, List.length_nil]; omega))
             refine on1 8 rfl fun KK hK => ?_
             go_simp
             refine HSR.out.mono ?_
             rintro e wZ ⟨vZ, rfl, hk⟩
             have HOZ : Hid (OwnK rolE wc.heap.size wZ vZ (sortO rolLt ((sortO rolLt (R ++ [(ya1, ya2)])) ++ [(yb1, yb2)]))) := by
              have q := hk.out.2
              rw [List.nil_append] at q
              exact q.base (by have := HKX145.out.size; omega)
             replace HKX145 := Lib.hid (HKX145.out.trans hk.out.1)
             obtain ⟨zo, zc, hvz, _⟩ := id HOZ.out.reads
             obtain ⟨zn, hzn⟩ : ∃ n, (sortO rolLt ((sortO rolLt (R ++ [(ya1, ya2)])) ++ [(yb1, yb2)])).length = n := ⟨_, rfl⟩
             rw [hzn] at hvz
             subst hvz
             clear hk HSR hzn HOW HXR
             go_simp
             refine hK.out _ _ (HMK145.out _ HKX145.out) fun hHeld => ?_
             clear hK KK
             (try simp only [nz])
             refine on1 9 rfl fun KK hK => ?_
             go_simp
             refine hK.out _ _ (HMK145.out _ HKX145.out) fun hHeld => ?_
             clear hK KK
             (try simp only [nz])
             refine on1 10 rfl fun KK hK => ?_
             have HE := Lib.hid (HD.out.roles HKX145.out HOZ.out)
             have v0 := (cf7 (HD.out.keeps HKX145.out).M).1
             have f0 := (cf7 (HD.out.keeps HKX145.out).M).2.1
             go_simp
             refine hK.out _ _ ⟨one_at HE.out.Y 6 _ rfl, one_at HE.out.Y 7 _ rfl⟩ (fun hHeld => ?_)
             clear hK KK v0 f0 HOZ
             (try simp only [nz])
             generalize (wZ.setCell ⟨vb, 0, none⟩ (.slice zo zn zc)) = wE at *
             refine wpAnyH_done (by kernel_rfl) ?_ _
             refine NoPanic.normal ?_
             clear hHeld HMK145 HKX145 HRSRC HBS
             have HN : Hid (WayI w0 wE vb (.slice zo zn zc) (.slice lo ln lc) (.slice (some ⟨b, 0, none⟩) 1 1) (sortO rolLt ((sortO rolLt (R ++ [(ya1, ya2)])) ++ [(yb1, yb2)])) Lk [((yh1, yh2), 4, yo, (ya1, ya2), (yb1, yb2), yi)]) := HE.out
             clear HE
             go_wp2_with fail
             go_meet
             exact ⟨rfl, _, _, _, HN⟩
           case p19X =>
            have HXL : Hid (wA.heap.size < (wA.alloc (bR yb1 yb2)).heap.size) := by rw [size_alloc]; show _ < _; omega
            have hkE : KF wA (wA.alloc (bR yb1 yb2)) := (Keeps.refl _ _).alloc _
            have HXR : Hid (SrcK rolE (wA.alloc (bR yb1 yb2)) (.slice (some ⟨wA.heap.size, 0, none⟩) 1 1) [(yb1, yb2)]) := one_srcK (E := rolE) wA (yb1, yb2) #[.string ⟨yb1.toArray⟩, .string ⟨yb2.toArray⟩] rfl
            try (replace HOW := Lib.hid (HOW.out.keeps hkE (fun _ _ z => z)))
            replace HKX145 := Lib.hid (HKX145.out.trans hkE)
            clear hkE
            go_simp
            refine hK.out _ _ (HMK145.out _ HKX145.out) fun hHeld => ?_
            clear hK KK
            (try simp only [nz])
            generalize (wA.alloc (bR yb1 yb2)) = wS27 at *
            obtain ⟨xb, hxb⟩ : ∃ xb, wA.heap.size = xb := ⟨_, rfl⟩
            (try simp only [hxb])
            (try simp only [hxb] at HXR)
            (try simp only [hxb] at HXL)
            (try simp only [hxb] at HXN)
            clear hxb
            refine on1 0 rfl fun KK hK => ?_
            have HXG : Hid (xb < wS27.heap.size) := HXL.out
            have HXQ : Hid (SrcK rolE (wS27.alloc (.cells #[] 28)) (.slice (some ⟨xb, 0, none⟩) 1 1) [(yb1, yb2)]) := HXR.out.keeps ((Keeps.refl (fun _ => False) wS27).alloc _)
            have HXN : Hid (¬ (Value.slice (some ⟨wS27.heap.size, 0, none⟩) 0 0).ownBlock = some xb) := fun e => by simp only [Value.ownBlock, Option.map_some, Option.some.injEq] at e; have := HXG.out; omega
            replace HXL : Hid (xb < (wS27.alloc (.cells #[] 28)).heap.size) := by have := HXG.out; rw [size_alloc]; show _ < _; omega
            replace HXR := HXQ
            clear HXQ HXG
            have hkE : KF wS27 (wS27.alloc (.cells #[] 28)) := (Keeps.refl _ _).alloc _
            have HOW : Hid (OwnK rolE bs (wS27.alloc (.cells #[] 28)) (.slice (some ⟨wS27.heap.size, 0, none⟩) 0 0) ([] : List Rol)) := ownK_lit rolE (by have := HKX145.out.size; have := HBS.out; omega)
            replace HKX145 := Lib.hid (HKX145.out.trans hkE)
            clear hkE
            go_simp
            refine hK.out _ _ (HMK145.out _ HKX145.out) fun hHeld => ?_
            clear hK KK
            (try simp only [nz])
            generalize (wS27.alloc (.cells #[] 28)) = wS28 at *
            obtain ⟨ev, hev⟩ : ∃ ev, Value.slice (some ⟨wS27.heap.size, 0, none⟩) 0 0 = ev := ⟨_, rfl⟩
            (try simp only [hev])
            (try simp only [hev] at HOW)
            (try simp only [hev] at HXN)
            clear hev
            refine on1 3 rfl fun KK hK => ?_
            have HXX : ∀ w' : World, Keeps (fun q => (ev : Value).ownBlock = some q) wS28 w' → SrcK rolE w' (.slice (some ⟨xb, 0, none⟩) 1 1) [(yb1, yb2)] := fun w' hk => by
             have q : RdX rolE wS28 (.slice (some ⟨xb, 0, none⟩) 1 1) [(yb1, yb2)] (fun k => (ev : Value).ownBlock ≠ some k) := ⟨HXR.out, fun k e => by
              simp only [Value.ownBlock, Option.map_some, Option.some.injEq] at e
              exact ⟨by rw [← e]; exact HXL.out, fun e2 => by have := HXN.out; exact this (by rw [e]; exact e2)⟩⟩
             exact (q.keeps hk (fun q _ hp e => hp e)).1
            have hlo : bs ≤ wS28.heap.size := by have := HKX145.out.size; have := HBS.out; omega
            refine step_app_k (E := rolE) rfl (.tmp 57) (.tmp 59) rfl bs ev [] (by simp [Act.eval, Act.put] <;> rfl) HOW.out _ (sortO rolLt (R ++ [(ya1, ya2)])) (by simp [Act.eval, Act.put] <;> rfl) (HRSRC.out.keeps HKX145.out) (by have := HRLE.out; simp; omega) hlo ?_
            intro evS29 wS29 ho hk
            have hk0 : KF wc wS29 := HKX145.out.trans_new hk (fun q hq e => by have := own_block HOW.out q e; have := HBS.out; omega)
            have hxk : SrcK rolE wS29 (.slice (some ⟨xb, 0, none⟩) 1 1) [(yb1, yb2)] := (HXX wS29 hk)
            replace HKX145 := Lib.hid hk0
            replace HOW := Lib.hid ho
            replace HXR := Lib.hid hxk
            clear hxk
            clear hk0 hk ho hlo
            (try go_simp)
            refine hK.out _ _ (HMK145.out _ HKX145.out) fun hHeld => ?_
            clear hK KK
            (try simp only [nz])
            clear HXX HXL HXN
            refine on1 7 rfl fun KK hK => ?_
            have hlo : bs ≤ wS29.heap.size := by have := HKX145.out.size; have := HBS.out; omega
            refine step_app_k (E := rolE) rfl (.tmp 60) (.tmp 63) rfl bs evS29 ([] ++ (sortO rolLt (R ++ [(ya1, ya2)]))) (by simp [Act.eval, Act.put] <;> rfl) HOW.out _ [(yb1, yb2)] (by simp [Act.eval, Act.put] <;> rfl) HXR.out (by have := HRLE.out; simp; omega) hlo ?_
            intro evY wY ho hk
            have hk0 : KF wc wY := HKX145.out.trans_new hk (fun q hq e => by have := own_block HOW.out q e; have := HBS.out; omega)
            replace HKX145 := Lib.hid hk0
            replace HOW := Lib.hid ho
            clear hk0 hk ho hlo
            (try go_simp)
            refine hK.out _ _ (HMK145.out _ HKX145.out) fun hHeld => ?_
            clear hK KK
            (try simp only [nz])
            have HSR := Lib.hid (rsortr_spec (rdk_r.1 HOW.out.reads) (by have := HRLE.out; simp only [List.nil_append, List.length_append, List.length_cons, List.length_nil]; omega))
            refine on1 8 rfl fun KK hK => ?_
            go_simp
            refine HSR.out.mono ?_
            rintro e wZ ⟨vZ, rfl, hk⟩
            have HOZ : Hid (OwnK rolE wc.heap.size wZ vZ (sortO rolLt ((sortO rolLt (R ++ [(ya1, ya2)])) ++ [(yb1, yb2)]))) := by
             have q := hk.out.2
             rw [List.nil_append] at q
             exact q.base (by have := HKX145.out.size; omega)
            replace HKX145 := Lib.hid (HKX145.out.trans hk.out.1)
            obtain ⟨zo, zc, hvz, _⟩ := id HOZ.out.reads
            obtain ⟨zn, hzn⟩ : ∃ n, (sortO rolLt ((sortO rolLt (R ++ [(ya1, ya2)])) ++ [(yb1, yb2)])).length = n := ⟨_, rfl⟩
            rw [hzn] at hvz
            subst hvz
            clear hk HSR hzn HOW HXR
            go_simp
            refine hK.out _ _ (HMK145.out _ HKX145.out) fun hHeld => ?_
            clear hK KK
            (try simp only [nz])
            refine on1 9 rfl fun KK hK => ?_
            go_simp
            refine hK.out _ _ (HMK145.out _ HKX145.out) fun hHeld => ?_
            clear hK KK
            (try simp only [nz])
            refine on1 10 rfl fun KK hK => ?_
            have HE := Lib.hid (HD.out.roles HKX145.out HOZ.out)
            have v0 := (cf7 (HD.out.keeps HKX145.out).M).1
            have f0 := (cf7 (HD.out.keeps HKX145.out).M).2.1
            go_simp
            refine hK.out _ _ ⟨one_at HE.out.Y 6 _ rfl, one_at HE.out.Y 7 _ rfl⟩ (fun hHeld => ?_)
            clear hK KK v0 f0 HOZ
            (try simp only [nz])
            generalize (wZ.setCell ⟨vb, 0, none⟩ (.slice zo zn zc)) = wE at *
            refine wpAnyH_done (by kernel_rfl) ?_ _
            refine NoPanic.normal ?_
            clear hHeld HMK145 HKX145 HRSRC HBS
            have HN : Hid (WayI w0 wE vb (.slice zo zn zc) (.slice lo ln lc) (.slice (some ⟨b, 0, none⟩) 1 1) (sortO rolLt ((sortO rolLt (R ++ [(ya1, ya2)])) ++ [(yb1, yb2)])) Lk [((yh1, yh2), 4, yo, (ya1, ya2), (yb1, yb2), yi)]) := HE.out
            clear HE
            go_wp2_with fail
            go_meet
            exact ⟨rfl, _, _, _, HN⟩
          case p3X =>
           have HXL : Hid (wA.heap.size < (wA.alloc (bR yb1 yb2)).heap.size) := by rw [size_alloc]; show _ < _; omega
           have hkE : KF wA (wA.alloc (bR yb1 yb2)) := (Keeps.refl _ _).alloc _
           have HXR : Hid (SrcK rolE (wA.alloc (bR yb1 yb2)) (.slice (some ⟨wA.heap.size, 0, none⟩) 1 1) [(yb1, yb2)]) := one_srcK (E := rolE) wA (yb1, yb2) #[.string ⟨yb1.toArray⟩, .string ⟨yb2.toArray⟩] rfl
           try (replace HOW := Lib.hid (HOW.out.keeps hkE (fun _ _ z => z)))
           replace HKX145 := Lib.hid (HKX145.out.trans hkE)
           clear hkE
           go_simp
           refine hK.out _ _ (HMK145.out _ HKX145.out) fun hHeld => ?_
           clear hK KK
           (try simp only [nz])
           generalize (wA.alloc (bR yb1 yb2)) = wS30 at *
           obtain ⟨xb, hxb⟩ : ∃ xb, wA.heap.size = xb := ⟨_, rfl⟩
           (try simp only [hxb])
           (try simp only [hxb] at HXR)
           (try simp only [hxb] at HXL)
           (try simp only [hxb] at HXN)
           clear hxb
           refine wpAnyH_two (i := 0) (j := 2) (by kernel_rfl) rfl rfl (fun KK hK => ?p31X) (fun KK hK => ?p32X)
           case p31X =>
            have HXG : Hid (xb < wS30.heap.size) := HXL.out
            have HXQ : Hid (SrcK rolE (wS30.alloc (.cells #[] 28)) (.slice (some ⟨xb, 0, none⟩) 1 1) [(yb1, yb2)]) := HXR.out.keeps ((Keeps.refl (fun _ => False) wS30).alloc _)
            have HXN : Hid (¬ (Value.slice (some ⟨wS30.heap.size, 0, none⟩) 0 0).ownBlock = some xb) := fun e => by simp only [Value.ownBlock, Option.map_some, Option.some.injEq] at e; have := HXG.out; omega
            replace HXL : Hid (xb < (wS30.alloc (.cells #[] 28)).heap.size) := by have := HXG.out; rw [size_alloc]; show _ < _; omega
            replace HXR := HXQ
            clear HXQ HXG
            have hkE : KF wS30 (wS30.alloc (.cells #[] 28)) := (Keeps.refl _ _).alloc _
            have HOW : Hid (OwnK rolE bs (wS30.alloc (.cells #[] 28)) (.slice (some ⟨wS30.heap.size, 0, none⟩) 0 0) ([] : List Rol)) := ownK_lit rolE (by have := HKX145.out.size; have := HBS.out; omega)
            replace HKX145 := Lib.hid (HKX145.out.trans hkE)
            clear hkE
            go_simp
            refine hK.out _ _ (HMK145.out _ HKX145.out) fun hHeld => ?_
            clear hK KK
            (try simp only [nz])
            generalize (wS30.alloc (.cells #[] 28)) = wS33 at *
            obtain ⟨ev, hev⟩ : ∃ ev, Value.slice (some ⟨wS30.heap.size, 0, none⟩) 0 0 = ev := ⟨_, rfl⟩
            (try simp only [hev])
            (try simp only [hev] at HOW)
            (try simp only [hev] at HXN)
            clear hev
            refine on1 2 rfl fun KK hK => ?_
            have v0 : wS33.cell? ⟨vb, 0, none⟩ = some (.slice ro rn rc) := (HKX145.out.cell (p := ⟨vb, 0, none⟩) (lt_of_heap HD.out.M) (fun x => x)).trans (cf7 HD.out.M).1
            go_simp
            refine hK.out _ _ (HMK145.out _ HKX145.out) fun hHeld => ?_
            clear hK KK
            (try simp only [nz])
            clear v0
            refine on1 3 rfl fun KK hK => ?_
            have HXX : ∀ w' : World, Keeps (fun q => (ev : Value).ownBlock = some q) wS33 w' → SrcK rolE w' (.slice (some ⟨xb, 0, none⟩) 1 1) [(yb1, yb2)] := fun w' hk => by
             have q : RdX rolE wS33 (.slice (some ⟨xb, 0, none⟩) 1 1) [(yb1, yb2)] (fun k => (ev : Value).ownBlock ≠ some k) := ⟨HXR.out, fun k e => by
              simp only [Value.ownBlock, Option.map_some, Option.some.injEq] at e
              exact ⟨by rw [← e]; exact HXL.out, fun e2 => by have := HXN.out; exact this (by rw [e]; exact e2)⟩⟩
             exact (q.keeps hk (fun q _ hp e => hp e)).1
            have hlo : bs ≤ wS33.heap.size := by have := HKX145.out.size; have := HBS.out; omega
            refine step_app_k (E := rolE) rfl (.tmp 57) (.tmp 59) rfl bs ev [] (by simp [Act.eval, Act.put] <;> rfl) HOW.out _ (sortO rolLt (R ++ [(ya1, ya2)])) (by simp [Act.eval, Act.put] <;> rfl) (HRSRC.out.keeps HKX145.out) (by have := HRLE.out; simp; omega) hlo ?_
            intro evS35 wS35 ho hk
            have hk0 : KF wc wS35 := HKX145.out.trans_new hk (fun q hq e => by have := own_block HOW.out q e; have := HBS.out; omega)
            have hxk : SrcK rolE wS35 (.slice (some ⟨xb, 0, none⟩) 1 1) [(yb1, yb2)] := (HXX wS35 hk)
            replace HKX145 := Lib.hid hk0
            replace HOW := Lib.hid ho
            replace HXR := Lib.hid hxk
            clear hxk
            clear hk0 hk ho hlo
            (try go_simp)
            refine hK.out _ _ (HMK145.out _ HKX145.out) fun hHeld => ?_
            clear hK KK
            (try simp only [nz])
            clear HXX HXL HXN
            refine on1 7 rfl fun KK hK => ?_
            have hlo : bs ≤ wS35.heap.size := by have := HKX145.out.size; have := HBS.out; omega
            refine step_app_k (E := rolE) rfl (.tmp 60) (.tmp 63) rfl bs evS35 ([] ++ (sortO rolLt (R ++ [(ya1, ya2)]))) (by simp [Act.eval, Act.put] <;> rfl) HOW.out _ [(yb1, yb2)] (by simp [Act.eval, Act.put] <;> rfl) HXR.out (by have := HRLE.out; simp; omega) hlo ?_
            intro evY wY ho hk
            have hk0 : KF wc wY := HKX145.out.trans_new hk (fun q hq e => by have := own_block HOW.out q e; have := HBS.out; omega)
            replace HKX145 := Lib.hid hk0
            replace HOW := Lib.hid ho
            clear hk0 hk ho hlo
            (try go_simp)
            refine hK.out _ _ (HMK145.out _ HKX145.out) fun hHeld => ?_
            clear hK KK
            (try simp only [nz])
            have HSR := Lib.hid (rsortr_spec (rdk_r.1 HOW.out.reads) (by have := HRLE.out; simp only [List.nil_append, List.length_append, List.length_cons, List.length_nil]; omega))
            refine on1 8 rfl fun KK hK => ?_
            go_simp
            refine HSR.out.mono ?_
            rintro e wZ ⟨vZ, rfl, hk⟩
            have HOZ : Hid (OwnK rolE wc.heap.size wZ vZ (sortO rolLt ((sortO rolLt (R ++ [(ya1, ya2)])) ++ [(yb1, yb2)]))) := by
             have q := hk.out.2
             rw [List.nil_append] at q
             exact q.base (by have := HKX145.out.size; omega)
            replace HKX145 := Lib.hid (HKX145.out.trans hk.out.1)
            obtain ⟨zo, zc, hvz, _⟩ := id HOZ.out.reads
            obtain ⟨zn, hzn⟩ : ∃ n, (sortO rolLt ((sortO rolLt (R ++ [(ya1, ya2)])) ++ [(yb1, yb2)])).length = n := ⟨_, rfl⟩
            rw [hzn] at hvz
            subst hvz
            clear hk HSR hzn HOW HXR
            go_simp
            refine hK.out _ _ (HMK145.out _ HKX145.out) fun hHeld => ?_
            clear hK KK
            (try simp only [nz])
            refine on1 9 rfl fun KK hK => ?_
            go_simp
            refine hK.out _ _ (HMK145.out _ HKX145.out) fun hHeld => ?_
            clear hK KK
            (try simp only [nz])
            refine on1 10 rfl fun KK hK => ?_
            have HE := Lib.hid (HD.out.roles HKX145.out HOZ.out)
            have v0 := (cf7 (HD.out.keeps HKX145.out).M).1
            have f0 := (cf7 (HD.out.keeps HKX145.out).M).2.1
            go_simp
            refine hK.out _ _ ⟨one_at HE.out.Y 6 _ rfl, one_at HE.out.Y 7 _ rfl⟩ (fun hHeld => ?_)
            clear hK KK v0 f0 HOZ
            (try simp only [nz])
            generalize (wZ.setCell ⟨vb, 0, none⟩ (.slice zo zn zc)) = wE at *
            refine wpAnyH_done (by kernel_rfl) ?_ _
            refine NoPanic.normal ?_
            clear hHeld HMK145 HKX145 HRSRC HBS
            have HN : Hid (WayI w0 wE vb (.slice zo zn zc) (.slice lo ln lc) (.slice (some ⟨b, 0, none⟩) 1 1) (sortO rolLt ((sortO rolLt (R ++ [(ya1, ya2)])) ++ [(yb1, yb2)])) Lk [((yh1, yh2), 4, yo, (ya1, ya2), (yb1, yb2), yi)]) := HE.out
            clear HE
            go_wp2_with fail
            go_meet
            exact ⟨rfl, _, _, _, HN⟩
           case p32X =>
            have v0 : wS30.cell? ⟨vb, 0, none⟩ = some (.slice ro rn rc) := (HKX145.out.cell (p := ⟨vb, 0, none⟩) (lt_of_heap HD.out.M) (fun x => x)).trans (cf7 HD.out.M).1
            go_simp
            refine hK.out _ _ (HMK145.out _ HKX145.out) fun hHeld => ?_
            clear hK KK
            (try simp only [nz])
            clear v0
            refine on1 0 rfl fun KK hK => ?_
            have HXG : Hid (xb < wS30.heap.size) := HXL.out
            have HXQ : Hid (SrcK rolE (wS30.alloc (.cells #[] 28)) (.slice (some ⟨xb, 0, none⟩) 1 1) [(yb1, yb2)]) := HXR.out.keeps ((Keeps.refl (fun _ => False) wS30).alloc _)
            have HXN : Hid (¬ (Value.slice (some ⟨wS30.heap.size, 0, none⟩) 0 0).ownBlock = some xb) := fun e => by simp only [Value.ownBlock, Option.map_some, Option.some.injEq] at e; have := HXG.out; omega
            replace HXL : Hid (xb < (wS30.alloc (.cells #[] 28)).heap.size) := by have := HXG.out; rw [size_alloc]; show _ < _; omega
            replace HXR := HXQ
            clear HXQ HXG
            have hkE : KF wS30 (wS30.alloc (.cells #[] 28)) := (Keeps.refl _ _).alloc _
            have HOW : Hid (OwnK rolE bs (wS30.alloc (.cells #[] 28)) (.slice (some ⟨wS30.heap.size, 0, none⟩) 0 0) ([] : List Rol)) := ownK_lit rolE (by have := HKX145.out.size; have := HBS.out; omega)
            replace HKX145 := Lib.hid (HKX145.out.trans hkE)
            clear hkE
            go_simp
            refine hK.out _ _ (HMK145.out _ HKX145.out) fun hHeld => ?_
            clear hK KK
            (try simp only [nz])
            generalize (wS30.alloc (.cells #[] 28)) = wS37 at *
            obtain ⟨ev, hev⟩ : ∃ ev, Value.slice (some ⟨wS30.heap.size, 0, none⟩) 0 0 = ev := ⟨_, rfl⟩
            (try simp only [hev])
            (try simp only [hev] at HOW)
            (try simp only [hev] at HXN)
            clear hev
            refine on1 3 rfl fun KK hK => ?_
            have HXX : ∀ w' : World, Keeps (fun q => (ev : Value).ownBlock = some q) wS37 w' → SrcK rolE w' (.slice (some ⟨xb, 0, none⟩) 1 1) [(yb1, yb2)] := fun w' hk => by
             have q : RdX rolE wS37 (.slice (some ⟨xb, 0, none⟩) 1 1) [(yb1, yb2)] (fun k => (ev : Value).ownBlock ≠ some k) := ⟨HXR.out, fun k e => by
              simp only [Value.ownBlock, Option.map_some, Option.some.injEq] at e
              exact ⟨by rw [← e]; exact HXL.out, fun e2 => by have := HXN.out; exact this (by rw [e]; exact e2)⟩⟩
             exact (q.keeps hk (fun q _ hp e => hp e)).1
            have hlo : bs ≤ wS37.heap.size := by have := HKX145.out.size; have := HBS.out; omega
            refine step_app_k (E := rolE) rfl (.tmp 57) (.tmp 59) rfl bs ev [] (by simp [Act.eval, Act.put] <;> rfl) HOW.out _ (sortO rolLt (R ++ [(ya1, ya2)])) (by simp [Act.eval, Act.put] <;> rfl) (HRSRC.out.keeps HKX145.out) (by have := HRLE.out; simp; omega) hlo ?_
            intro evS38 wS38 ho hk
            have hk0 : KF wc wS38 := HKX145.out.trans_new hk (fun q hq e => by have := own_block HOW.out q e; have := HBS.out; omega)
            have hxk : SrcK rolE wS38 (.slice (some ⟨xb, 0, none⟩) 1 1) [(yb1, yb2)] := (HXX wS38 hk)
            replace HKX145 := Lib.hid hk0
            replace HOW := Lib.hid ho
            replace HXR := Lib.hid hxk
            clear hxk
            clear hk0 hk ho hlo
            (try go_simp)
            refine hK.out _ _ (HMK145.out _ HKX145.out) fun hHeld => ?_
            clear hK KK
            (try simp only [nz])
            clear HXX HXL HXN
            refine on1 7 rfl fun KK hK => ?_
            have hlo : bs ≤ wS38.heap.size := by have := HKX145.out.size; have := HBS.out; omega
            refine step_app_k (E := rolE) rfl (.tmp 60) (.tmp 63) rfl bs evS38 ([] ++ (sortO rolLt (R ++ [(ya1, ya2)]))) (by simp [Act.eval, Act.put] <;> rfl) HOW.out _ [(yb1, yb2)] (by simp [Act.eval, Act.put] <;> rfl) HXR.out (by have := HRLE.out; simp; omega) hlo ?_
            intro evY wY ho hk
            have hk0 : KF wc wY := HKX145.out.trans_new hk (fun q hq e => by have := own_block HOW.out q e; have := HBS.out; omega)
            replace HKX145 := Lib.hid hk0
            replace HOW := Lib.hid ho
            clear hk0 hk ho hlo
            (try go_simp)
            refine hK.out _ _ (HMK145.out _ HKX145.out) fun hHeld => ?_
            clear hK KK
            (try simp only [nz])
            have HSR := Lib.hid (rsortr_spec (rdk_r.1 HOW.out.reads) (by have := HRLE.out; simp only [List.nil_append, List.length_append, List.length_cons, List.length_nil]; omega))
            refine on1 8 rfl fun KK hK => ?_
            go_simp
            refine HSR.out.mono ?_
            rintro e wZ ⟨vZ, rfl, hk⟩
            have HOZ : Hid (OwnK rolE wc.heap.size wZ vZ (sortO rolLt ((sortO rolLt (R ++ [(ya1, ya2)])) ++ [(yb1, yb2)]))) := by
             have q := hk.out.2
             rw [List.nil_append] at q
             exact q.base (by have := HKX145.out.size; omega)
            replace HKX145 := Lib.hid (HKX145.out.trans hk.out.1)
            obtain ⟨zo, zc, hvz, _⟩ := id HOZ.out.reads
            obtain ⟨zn, hzn⟩ : ∃ n, (sortO rolLt ((sortO rolLt (R ++ [(ya1, ya2)])) ++ [(yb1, yb2)])).length = n := ⟨_, rfl⟩
            rw [hzn] at hvz
            subst hvz
            clear hk HSR hzn HOW HXR
            go_simp
            refine hK.out _ _ (HMK145.out _ HKX145.out) fun hHeld => ?_
            clear hK KK
            (try simp only [nz])
            refine on1 9 rfl fun KK hK => ?_
            go_simp
            refine hK.out _ _ (HMK145.out _ HKX145.out) fun hHeld => ?_
            clear hK KK
            (try simp only [nz])
            refine on1 10 rfl fun KK hK => ?_
            have HE := Lib.hid (HD.out.roles HKX145.out HOZ.out)
            have v0 := (cf7 (HD.out.keeps HKX145.out).M).1
            have f0 := (cf7 (HD.out.keeps HKX145.out).M).2.1
            go_simp
            refine hK.out _ _ ⟨one_at HE.out.Y 6 _ rfl, one_at HE.out.Y 7 _ rfl⟩ (fun hHeld => ?_)
            clear hK KK v0 f0 HOZ
            (try simp only [nz])
            generalize (wZ.setCell ⟨vb, 0, none⟩ (.slice zo zn zc)) = wE at *
            refine wpAnyH_done (by kernel_rfl) ?_ _
            refine NoPanic.normal ?_
            clear hHeld HMK145 HKX145 HRSRC HBS
            have HN : Hid (WayI w0 wE vb (.slice zo zn zc) (.slice lo ln lc) (.slice (some ⟨b, 0, none⟩) 1 1) (sortO rolLt ((sortO rolLt (R ++ [(ya1, ya2)])) ++ [(yb1, yb2)])) Lk [((yh1, yh2), 4, yo, (ya1, ya2), (yb1, yb2), yi)]) := HE.out
            clear HE
            go_wp2_with fail
            go_meet
            exact ⟨rfl, _, _, _, HN⟩
         case rest =>
          obtain ⟨rfl, ro, rn, rc, HE⟩ := hcut
          clear HD
          have p0 := one_at HE.out.Y 0 _ rfl
          have p1 := one_at HE.out.Y 1 _ rfl
          have p2 := one_at HE.out.Y 2 _ rfl
          have p3 := one_at HE.out.Y 3 _ rfl
          have p4 := one_at HE.out.Y 4 _ rfl
          have p5 := one_at HE.out.Y 5 _ rfl
          have p6 := one_at HE.out.Y 6 _ rfl
          have p7 := one_at HE.out.Y 7 _ rfl
          have p8 := one_at HE.out.Y 8 _ rfl
          have HAR : Hid (addR R ((yh1, yh2), 4, yo, (ya1, ya2), (yb1, yb2), yi) = (sortO rolLt ((sortO rolLt (R ++ [(ya1, ya2)])) ++ [(yb1, yb2)]))) := by
           show _ = _
           unfold addR
           rw [(more4 rfl).1, sort_twice]
          have HAL : Hid (addL Lk ((yh1, yh2), 4, yo, (ya1, ya2), (yb1, yb2), yi) = Lk) := by
           show _ = _
           exact addL_none HLS.out (more4 rfl).2
          have HN : Hid (WayI w0 wc vb (.slice ro rn rc) (.slice lo ln lc) (.slice none 0 0) (addR R ((yh1, yh2), 4, yo, (ya1, ya2), (yb1, yb2), yi)) (addL Lk ((yh1, yh2), 4, yo, (ya1, ya2), (yb1, yb2), yi)) [] ∧ (st.take (i + 1)).foldl (refStep gr sh) (Rn, Ln) = ((addR R ((yh1, yh2), 4, yo, (ya1, ya2), (yb1, yb2), yi)), (addL Lk ((yh1, yh2), 4, yo, (ya1, ya2), (yb1, yb2), yi))) ∧ OnWay gr sh st (qa1, qa2) (qb1, qb2) (addR R ((yh1, yh2), 4, yo, (ya1, ya2), (yb1, yb2), yi)) (addL Lk ((yh1, yh2), 4, yo, (ya1, ya2), (yb1, yb2), yi))) := by
           refine ⟨?_, HFD.out, HON.out⟩
           rw [HAR.out, HAL.out]
           exact HE.out.one (rdX_nil _ _ _)
          clear HE HAR HAL HFD HON HLS
          go_wp2_with fail
          go_roundg (an - (i + 1))
          case measure => omega
          case rel => exact ⟨i + 1, ro, lo, rn, rc, ln, lc, _, _, by omega, rfl, by go_num, HN⟩
        case neg =>
         have p0 := one_at HD.out.Y 0 _ rfl
         have p1 := one_at HD.out.Y 1 _ rfl
         have p2 := one_at HD.out.Y 2 _ rfl
         have p3 := one_at HD.out.Y 3 _ rfl
         have p4 := one_at HD.out.Y 4 _ rfl
         have p5 := one_at HD.out.Y 5 _ rfl
         have p6 := one_at HD.out.Y 6 _ rfl
         have p7 := one_at HD.out.Y 7 _ rfl
         have p8 := one_at HD.out.Y 8 _ rfl
         have hb4 : (yk == 4) = false := beq_eq_false_iff_ne.2 hk4
         by_cases hk3 : yk = 3
         case pos =>
          subst hk3
          have HPT := Lib.hid (ref_put_at HD.out.L.1 (by omega) yi)
          have v1 := (cf7 HD.out.M).2.2.1
          go_wp2_with fail
          refine HPT.out.mono ?_
          rintro e w5 ⟨lv2, rfl, hk⟩
          have HL2 : Hid (RowX w5 lv2 (putS Lk yi) (fun k => k ≠ vb)) := fresh_row HD.out.L hk.out.2.1 hk.out.2.2 (put_pos _ _) (fun k hk2 e => by have := lt_of_heap HD.out.M; omega)
          obtain ⟨l2o, l2c, hl2, _⟩ := id hk.out.2.1
          obtain ⟨l2n, hl2n⟩ : ∃ n, (putS Lk yi).length = n := ⟨_, rfl⟩
          rw [hl2n] at hl2
          subst hl2
          have HE := Lib.hid (HD.out.links hk.out.1 HL2.out)
          have HM5 := Lib.hid (HD.out.keeps hk.out.1).M
          clear HPT hk HL2 hl2n v1 HD p0 p1 p2 p3 p4 p5 p6 p7 p8
          have v1 := (cf7 HM5.out).2.2.1
          have f1 := (cf7 HM5.out).2.2.2.1
          clear HM5
          go_wp2_with fail
          clear v1 f1
          have HAR : Hid (addR R ((yh1, yh2), 3, yo, (ya1, ya2), (yb1, yb2), yi) = (sortO rolLt (R ++ [(ya1, ya2)]))) := by
           show _ = _
           unfold addR
           rw [(more3 rfl).1]
          have HAL : Hid (addL Lk ((yh1, yh2), 3, yo, (ya1, ya2), (yb1, yb2), yi) = putS Lk yi) := by
           show _ = _
           unfold addL
           rw [(more3 rfl).2, put_tab HLS.out]
          have HN : Hid (WayI w0 (w5.setCell ⟨vb, 1, none⟩ (.slice l2o l2n l2c)) vb (.slice ro rn rc) (.slice l2o l2n l2c) (.slice none 0 0) (addR R ((yh1, yh2), 3, yo, (ya1, ya2), (yb1, yb2), yi)) (addL Lk ((yh1, yh2), 3, yo, (ya1, ya2), (yb1, yb2), yi)) [] ∧ (st.take (i + 1)).foldl (refStep gr sh) (Rn, Ln) = ((addR R ((yh1, yh2), 3, yo, (ya1, ya2), (yb1, yb2), yi)), (addL Lk ((yh1, yh2), 3, yo, (ya1, ya2), (yb1, yb2), yi))) ∧ OnWay gr sh st (qa1, qa2) (qb1, qb2) (addR R ((yh1, yh2), 3, yo, (ya1, ya2), (yb1, yb2), yi)) (addL Lk ((yh1, yh2), 3, yo, (ya1, ya2), (yb1, yb2), yi))) := by
           refine ⟨?_, HFD.out, HON.out⟩
           rw [HAR.out, HAL.out]
           exact HE.out.one (rdX_nil _ _ _)
          clear HE HAR HAL HFD HON HLS
          go_wp2_with fail
          go_roundg (an - (i + 1))
          case measure => omega
          case rel => exact ⟨i + 1, ro, l2o, rn, rc, l2n, l2c, _, _, by omega, rfl, by go_num, HN⟩
         case neg =>
          obtain rfl : yk = 2 := by omega
          have HAR : Hid (addR R ((yh1, yh2), 2, yo, (ya1, ya2), (yb1, yb2), yi) = (sortO rolLt (R ++ [(ya1, ya2)]))) := by
           show _ = _
           unfold addR
           rw [(more2 rfl).1]
          have HAL : Hid (addL Lk ((yh1, yh2), 2, yo, (ya1, ya2), (yb1, yb2), yi) = Lk) := by
           show _ = _
           exact addL_none HLS.out (more2 rfl).2
          have HN : Hid (WayI w0 wc vb (.slice ro rn rc) (.slice lo ln lc) (.slice none 0 0) (addR R ((yh1, yh2), 2, yo, (ya1, ya2), (yb1, yb2), yi)) (addL Lk ((yh1, yh2), 2, yo, (ya1, ya2), (yb1, yb2), yi)) [] ∧ (st.take (i + 1)).foldl (refStep gr sh) (Rn, Ln) = ((addR R ((yh1, yh2), 2, yo, (ya1, ya2), (yb1, yb2), yi)), (addL Lk ((yh1, yh2), 2, yo, (ya1, ya2), (yb1, yb2), yi))) ∧ OnWay gr sh st (qa1, qa2) (qb1, qb2) (addR R ((yh1, yh2), 2, yo, (ya1, ya2), (yb1, yb2), yi)) (addL Lk ((yh1, yh2), 2, yo, (ya1, ya2), (yb1, yb2), yi))) := by
           refine ⟨?_, HFD.out, HON.out⟩
           rw [HAR.out, HAL.out]
           exact HD.out.one (rdX_nil _ _ _)
          clear HD HAR HAL HFD HON HLS
          go_wp2_with fail
          go_roundg (an - (i + 1))
          case measure => omega
          case rel => exact ⟨i + 1, ro, lo, rn, rc, ln, lc, _, _, by omega, rfl, by go_num, HN⟩
    ·obtain rfl : an = i := by omega
     have hiI : ¬ (an : Int) < (an : Int) := by omega
     have HN : Hid (WayI w0 wr vb (.slice ro rn rc) (.slice lo ln lc) (.slice none 0 0) R Lk [] ∧ refRounds gr sh st (n + 1) (sortO rolLt [(qa1, qa2), (qb1, qb2)], []) = (R, Lk) ∧ OnWay gr sh st (qa1, qa2) (qb1, qb2) R Lk) := by
      refine ⟨HI.out.1, ?_, HI.out.2.2⟩
      have q := HI.out.2.1
      rw [List.take_of_length_le (by rw [HNS.out]; exact Nat.le_refl _)] at q
      rw [refRounds_succ, HRD.out]
      exact q
     clear HI HRD
     go_wp2_with fail
     go_roundg (200 - (n + 1))
     case measure => omega
     case rel => exact ⟨n + 1, ro, lo, rn, rc, ln, lc, R, Lk, by omega, rfl, by go_num, HN⟩
  ·have hnn : n = 200 := by omega
   have hnI : ¬ (n : Int) < 200 := by omega
   have HW := Lib.hid HI.out.1
   have HSH : Hid (OnWay gr sh st (qa1, qa2) (qb1, qb2) R Lk ∧ Shut2 gr sh st R Lk) := by
    have q := OnWay.all200 (g := gr) (h := sh) (l := st) (v := (sortO rolLt [(qa1, qa2), (qb1, qb2)], [])) OnWay.begin (by rw [HNS.out]; exact h1)
    have e := HI.out.2.1
    rw [hnn] at e
    rw [e] at q
    exact q
   clear HI hnn
   have hlens := HSH.out.1.lens
   have hst := HNS.out
   have hR : R.length ≤ 200 := by omega
   have hL : Lk.length ≤ 100 := by omega
   have HRN : Hid (R.length = rn) := by
    obtain ⟨_, _, e, _⟩ := id HW.out.R.1.1
    simp only [Value.slice.injEq] at e
    exact e.2.1.symm
   have HQW := Lib.hid ((HW.out.K.block _ (lt_of_heap HQB0.out) (fun x => x)).trans HQB0.out)
   obtain ⟨q0, g0, q1, g1, q2, g2, q3, g3, q4, g4, q5, g5⟩ := cf6 HQW.out
   clear g0 g1 g2 g3 g4 g5 q0 q1 q2 q5 hlens hst HQW
   have hka : KF wr (wr.alloc (bR qb1 qb2)) := (Keeps.refl _ _).alloc _
   have hlt := lt_of_heap HW.out.M
   obtain ⟨gb, hgb⟩ : ∃ q, wr.heap.size = q := ⟨_, rfl⟩
   have HI1 : Hid (RefI w0 (wr.alloc (bR qb1 qb2)) vb (.slice ro rn rc) (.slice lo ln lc) (.slice none 0 0) (.slice none 0 0) (.slice none 0 0) false (.slice (some ⟨gb, 0, none⟩) 1 1) (.slice none 0 0) R Lk [] [] [] [(qb1, qb2)] []) := by
    have kk := HW.out.keeps hka
    have ha : ∀ k, k < wr.heap.size → k ≠ vb → Ap3 vb (.slice none 0 0) (.slice none 0 0) (.slice (some ⟨gb, 0, none⟩) 1 1) k := fun k hk hp => ⟨hp, by simp [Value.ownBlock], by simp [Value.ownBlock], fun e => by simp only [Value.ownBlock, Option.map_some, Option.some.injEq] at e; omega⟩
    have hG : OwnK rolE (vb + 1) (wr.alloc (bR qb1 qb2)) (.slice (some ⟨gb, 0, none⟩) 1 1) [(qb1, qb2)] := by
     rw [← hgb]
     exact (ownK_one rolE wr (qb1, qb2) _ rfl).base hlt
    exact ⟨kk.K, kk.hb, kk.M, HW.out.R.into hka (fun _ _ _ x => x) ha, HW.out.L.into hka (fun _ _ _ x => x) ha, rowX_nil _ _, rdX_nil _ _ _, ownK_nil _ _ _, ownK_nil _ _ _, hG, fun k e => by simp [Value.ownBlock] at e⟩
   go_upto_region 15 with fail
   go_upto_region 16 with fail
   (try simp only [hgb])
   clear hka hlt hgb HW q3 q4
   generalize wr.alloc (bR qb1 qb2) = w2 at *
   have HI2 : Hid (RefI w0 w2 vb (.slice ro rn rc) (.slice lo ln lc) (.slice none 0 0) (.slice none 0 0) (.slice none 0 0) false (.slice (some ⟨gb, 0, none⟩) 1 1) (.slice none 0 0) R Lk (tabL ((R.map (·.1)).take 0)) [] [] [(qb1, qb2)] []) := by
    rw [List.take_zero, tabL_nil]
    exact HI1.out
   have v0 := (cf7 HI1.out.M).1
   clear HI1
   go_wp2_with fail
   clear v0
   go_loopg [83] rn (fun g t wx => ∃ (i : Nat) (pv : Value), i ≤ rn ∧ g = rn - i ∧ t = .int .i64 i ∧ Hid (RefI w0 wx vb (.slice ro rn rc) (.slice lo ln lc) pv (.slice none 0 0) (.slice none 0 0) false (.slice (some ⟨gb, 0, none⟩) 1 1) (.slice none 0 0) R Lk (tabL ((R.map (·.1)).take i)) [] [] [(qb1, qb2)] []))
   case atStart => exact ⟨0, _, Nat.zero_le _, rfl, rfl, HI2.out⟩
   case round =>
    clear HI2
    obtain ⟨i, pv, hi, rfl, rfl, HI⟩ := hrel
    by_cases hlt : i < rn
    ·skip
     have hiI : (i : Int) < (rn : Int) := by omega
     have hwi : IntKind.i64.wrap ((i : Int) + 1) = (i : Int) + 1 := IntWalk.i64_in _ (by have := HRN.out; omega)
     obtain ⟨y, hy⟩ : ∃ y, R[i]? = some y := ⟨_, List.getElem?_eq_getElem (by rw [HRN.out]; exact hlt)⟩
     obtain ⟨aoz, cpz, ez, hez, hrz⟩ := id HI.out.R.1.1
     obtain ⟨g, off, hao, hg, hcc⟩ := hrz (by rw [HRN.out]; omega)
     simp only [Value.slice.injEq] at ez
     obtain ⟨rfl, hzz, rfl⟩ := ez
     subst hao
     have hicap : i < rc := by omega
     have hc := hcc i y hy
     obtain ⟨yr1, yr2⟩ := y
     have HNX : Hid ((R.map (·.1)).take (i + 1) = (R.map (·.1)).take i ++ [yr1]) := by
      show _ = _
      rw [List.take_add_one, List.getElem?_map, hy]
      rfl
     have HPL : Hid ((tabL ((R.map (·.1)).take i)).length ≤ 10000) := by
      show _ ≤ _
      have := tab_len ((R.map (·.1)).take i)
      have : ((R.map (·.1)).take i).length ≤ R.length := by rw [List.length_take, List.length_map]; omega
      omega
     clear hcc hrz hez hzz
     have c0 : wr.cell? ⟨g, off + i * 2, none⟩ = some (.string ⟨yr1.toArray⟩) := hc 0 _ rfl
     have c1 : wr.cell? ⟨g, off + i * 2 + 1, none⟩ = some (.string ⟨yr2.toArray⟩) := hc 1 _ rfl
     have hal := (MapKept.heap_alloc wr (bR yr1 yr2)).1
     have hka : KF wr (wr.alloc (bR yr1 yr2)) := (Keeps.refl _ _).alloc _
     have HB := Lib.hid hal
     have HJ := Lib.hid (HI.out.keeps hka)
     obtain ⟨b, hb⟩ : ∃ b, wr.heap.size = b := ⟨_, rfl⟩
     rw [hb] at HB
     go_upto_region 19 with fail
     (try simp only [hb])
     clear hal hka hb HI hc c0 c1 hy hg
     generalize wr.alloc (bR yr1 yr2) = w3 at *
     obtain ⟨p0, f0, p1, f1⟩ := cf2 HB.out
     have v2 := (cf7 HJ.out.M).2.2.2.2.1
     have HPT := Lib.hid (ref_put_at HJ.out.P.1 HPL.out yr1)
     clear f0 f1
     go_wp2_with fail
     refine HPT.out.mono ?_
     rintro e w5 ⟨pv2, rfl, hk⟩
     have HP2 : Hid (RowX w5 pv2 (tabL (((R.map (·.1)).take i) ++ [yr1])) (Ap3 vb (.slice none 0 0) (.slice none 0 0) (.slice (some ⟨gb, 0, none⟩) 1 1))) := by
      rw [← put_tabL]
      exact fresh_row HJ.out.P hk.out.2.1 hk.out.2.2 (put_pos _ _) (fun k hk2 => HJ.out.ap hk2)
     obtain ⟨p2o, p2c, hp2, _⟩ := id hk.out.2.1
     obtain ⟨p2n, hp2n⟩ : ∃ n, (putS (tabL ((R.map (·.1)).take i)) yr1).length = n := ⟨_, rfl⟩
     rw [hp2n] at hp2
     subst hp2
     have HE := Lib.hid (HJ.out.prins hk.out.1 HP2.out)
     have HMP := Lib.hid (HJ.out.keeps hk.out.1).M
     skip
     clear HPT hk HP2 hp2n v2 HJ HB p0 p1
     have v2 := (cf7 HMP.out).2.2.2.2.1
     have f2 := (cf7 HMP.out).2.2.2.2.2.1
     clear HMP
     rw [← HNX.out] at HE
     go_wp2_with fail
     clear v2 f2 HNX
     go_roundg (rn - (i + 1))
     case measure => omega
     case rel => exact ⟨i + 1, _, by omega, rfl, by go_num, HE⟩
    ·obtain rfl : rn = i := by omega
     have hiI : ¬ (rn : Int) < (rn : Int) := by omega
     have HI3 : Hid (RefI w0 wr vb (.slice ro rn rc) (.slice lo ln lc) pv (.slice none 0 0) (.slice none 0 0) (lkF (foli gr sh R Lk st 0)) (.slice (some ⟨gb, 0, none⟩) 1 1) (.slice none 0 0) R Lk (tabL (accW R (foli gr sh R Lk st 0))) (fixF sh (foli gr sh R Lk st 0)) (looF sh (foli gr sh R Lk st 0)) (accH (qb1, qb2) (foli gr sh R Lk st 0)) []) := by
      have q := HI.out
      rw [List.take_of_length_le (by rw [List.length_map, HRN.out]; exact Nat.le_refl _)] at q
      rw [foli_zero, accW_nil, accH_nil]
      exact q
     have HPW := Lib.hid ((HI.out.K.block _ (lt_of_heap HPB0.out) (fun x => x)).trans HPB0.out)
     obtain ⟨z0, g0, z1, g1, z2, g2, z3, g3⟩ := cf4 HPW.out
     clear g0 g1 g2 g3 z1 z2 z3 HPW HI
     go_wp2_with fail
     clear z0
     go_loopg [9, 97] an (fun g s t wx => ∃ (i : Nat) (pv fv ov gv : Value), i ≤ an ∧ g = an - i ∧ t = .int .i64 i ∧ gv = s ∧ Hid (RefI w0 wx vb (.slice ro rn rc) (.slice lo ln lc) pv fv ov (lkF (foli gr sh R Lk st i)) gv (.slice none 0 0) R Lk (tabL (accW R (foli gr sh R Lk st i))) (fixF sh (foli gr sh R Lk st i)) (looF sh (foli gr sh R Lk st i)) (accH (qb1, qb2) (foli gr sh R Lk st i)) []))
     case atStart => exact ⟨0, _, _, _, _, Nat.zero_le _, rfl, rfl, rfl, HI3.out⟩
     case round =>
      clear HI3
      obtain ⟨i, pv, fv, ov, gv, hi, rfl, rfl, rfl, HI⟩ := hrel
      by_cases hlt : i < an
      ·skip
       have hiI : (i : Int) < (an : Int) := by omega
       have hwi : IntKind.i64.wrap ((i : Int) + 1) = (i : Int) + 1 := IntWalk.i64_in _ (by omega)
       have hicap : i < ac := by omega
       obtain ⟨y, hy⟩ : ∃ y, st[i]? = some y := ⟨_, List.getElem?_eq_getElem (by rw [HNS.out]; exact hlt)⟩
       obtain ⟨aoz, cpz, ez, hez, hrz⟩ := id (HS0.out.keeps HI.out.K).1
       obtain ⟨g, off, hao, hg, hcc⟩ := hrz (by rw [HNS.out]; omega)
       simp only [Value.slice.injEq] at ez
       obtain ⟨rfl, hzz, rfl⟩ := ez
       subst hao
       have hc := hcc i y hy
       have HY := Lib.hid hy
       have hkind := HKD.out y (List.mem_of_getElem? hy)
       obtain ⟨⟨yh1, yh2⟩, yk, yo, ⟨ya1, ya2⟩, ⟨yb1, yb2⟩, yi⟩ := y
       simp only at hkind
       clear hcc hrz hez hzz hy
       obtain ⟨c0, c1, c2, c3, c4, c5, c6, c7, c8⟩ := n9 hc
       have hka : KF wr (wr.alloc (bM yk yh1 yh2 yo ya1 ya2 yb1 yb2 yi)) := (Keeps.refl _ _).alloc _
       obtain ⟨b, hb⟩ : ∃ b, wr.heap.size = b := ⟨_, rfl⟩
       obtain ⟨lkb, hlkb⟩ : ∃ x, lkF (foli gr sh R Lk st i) = x := ⟨_, rfl⟩
       have HLKB := Lib.hid hlkb
       have HB : Hid (RefI w0 (wr.alloc (bM yk yh1 yh2 yo ya1 ya2 yb1 yb2 yi)) vb (.slice ro rn rc) (.slice lo ln lc) pv fv ov lkb gv (.slice (some ⟨b, 0, none⟩) 1 1) R Lk (tabL (accW R (foli gr sh R Lk st i))) (fixF sh (foli gr sh R Lk st i)) (looF sh (foli gr sh R Lk st i)) (accH (qb1, qb2) (foli gr sh R Lk st i)) [((yh1, yh2), yk, yo, (ya1, ya2), (yb1, yb2), yi)]) := by
        rw [← hlkb]
        refine (HI.out.keeps hka).one ⟨by rw [← hb]; exact one_srcK (E := stmE) wr ((yh1, yh2), yk, yo, (ya1, ya2), (yb1, yb2), yi) #[.int .i64 yk, .string ⟨yh1.toArray⟩, .string ⟨yh2.toArray⟩, .string ⟨yo.toArray⟩, .string ⟨ya1.toArray⟩, .string ⟨ya2.toArray⟩, .string ⟨yb1.toArray⟩, .string ⟨yb2.toArray⟩, .string ⟨yi.toArray⟩] rfl, fun k hk => ?_⟩
        simp only [Value.ownBlock, Option.map_some, Option.some.injEq] at hk
        have h7 := lt_of_heap (MapKept.heap_alloc wr (bM yk yh1 yh2 yo ya1 ya2 yb1 yb2 yi)).1
        exact ⟨by omega, HI.out.ap (by omega)⟩
       have HFO := Lib.hid (fun (w : World) (hk : KF (wr.alloc (bM yk yh1 yh2 yo ya1 ya2 yb1 yb2 yi)) w) => wfollowed_spec (v0 := .slice (some ⟨g, off, none⟩) an ac) (v3 := .slice jo jn jc) (pv := pv) (fv := fv) (ov := ov) (gv := .slice none 0 0) (lk := lkb) (HB.out.R.1.1.keeps hk) (HB.out.L.1.keeps hk) ((HG0.out.keeps HB.out.K).1.keeps hk) ((HH0.out.keeps HB.out.K).1.keeps hk) (by omega) (by omega) (by omega) (by omega) ((yh1, yh2), yk, yo, (ya1, ya2), (yb1, yb2), yi))
       obtain ⟨fb, hfb⟩ : ∃ x, folB gr sh R Lk ((yh1, yh2), yk, yo, (ya1, ya2), (yb1, yb2), yi) = x := ⟨_, rfl⟩
       rw [hfb] at HFO
       have HFB := Lib.hid hfb
       have HPW := Lib.hid (((HB.out.K).block _ (lt_of_heap HPB0.out) (fun x => x)).trans HPB0.out)
       go_upto_region 24 with fail
       (try simp only [hb])
       clear hka hb HI hc hg hfb hlkb c0 c1 c2 c3 c4 c5 c6 c7 c8
       generalize wr.alloc (bM yk yh1 yh2 yo ya1 ya2 yb1 yb2 yi) = w3 at *
       have p0 := one_at HB.out.Y 0 _ rfl
       have p1 := one_at HB.out.Y 1 _ rfl
       have p2 := one_at HB.out.Y 2 _ rfl
       have p3 := one_at HB.out.Y 3 _ rfl
       have p4 := one_at HB.out.Y 4 _ rfl
       have p5 := one_at HB.out.Y 5 _ rfl
       have p6 := one_at HB.out.Y 6 _ rfl
       have p7 := one_at HB.out.Y 7 _ rfl
       have p8 := one_at HB.out.Y 8 _ rfl
       obtain ⟨z0, g0, z1, g1, z2, g2, z3, g3⟩ := cf4 HPW.out
       obtain ⟨v0, f0, v1, f1, v2, f2, v3, f3, v4, f4, v5, f5, v6, f6⟩ := cf7 HB.out.M
       clear g0 g1 g2 g3 f0 f1 f2 f3 f4 f5 f6
       unfold stmV at HFO
       simp only at HFO
       go_wp2_with fail
       refine (HFO.out _ (Keeps.refl _ _)).mono ?_
       rintro e w4 ⟨rfl, hk⟩
       have HC := Lib.hid (HB.out.keeps hk.out)
       clear HFO HB HPW hk p0 p1 p2 p3 p4 p5 p6 p7 p8 z0 z1 z2 z3 v0 v1 v2 v3 v4 v5 v6
       have p0 := one_at HC.out.Y 0 _ rfl
       have p1 := one_at HC.out.Y 1 _ rfl
       have p2 := one_at HC.out.Y 2 _ rfl
       have p3 := one_at HC.out.Y 3 _ rfl
       have p4 := one_at HC.out.Y 4 _ rfl
       have p5 := one_at HC.out.Y 5 _ rfl
       have p6 := one_at HC.out.Y 6 _ rfl
       have p7 := one_at HC.out.Y 7 _ rfl
       have p8 := one_at HC.out.Y 8 _ rfl
       cases fb
       case false =>
        have HN : Hid (RefI w0 w4 vb (.slice ro rn rc) (.slice lo ln lc) pv fv ov (lkF (foli gr sh R Lk st (i + 1))) gv (.slice none 0 0) R Lk (tabL (accW R (foli gr sh R Lk st (i + 1)))) (fixF sh (foli gr sh R Lk st (i + 1))) (looF sh (foli gr sh R Lk st (i + 1))) (accH (qb1, qb2) (foli gr sh R Lk st (i + 1))) []) := by
         rw [foli_no HY.out HFB.out, HLKB.out]
         exact HC.out.one (rdX_nil _ _ _)
        clear HC HFB HLKB
        go_wp2_with fail
        go_roundg (an - (i + 1))
        case measure => omega
        case rel => exact ⟨i + 1, _, _, _, _, by omega, rfl, by go_num, rfl, HN⟩
       case true =>
        have HFI := Lib.hid (foli_yes HY.out HFB.out)
        have hfl := foli_len gr sh R Lk st i
        rw [HNS.out] at hfl
        obtain ⟨FA, hFA⟩ : ∃ FA, (foli gr sh R Lk st i) = FA := ⟨_, rfl⟩
        rw [hFA] at HC HFI HLKB hfl
        clear hFA HFB HY
        have HSH2 := Lib.hid (rhas_spec (rdk_r.1 (HH0.out.keeps HC.out.K).1) (by omega) (yh1, yh2))
        have HPW := Lib.hid (((HC.out.K).block _ (lt_of_heap HPB0.out) (fun x => x)).trans HPB0.out)
        have z2 := (cf4 HPW.out).2.2.2.2.1
        clear HPW
        obtain ⟨x, hx⟩ : ∃ x, decide ((yh1, yh2) ∈ sh) = x := ⟨_, rfl⟩
        rw [hx] at HSH2
        have HX := Lib.hid hx
        clear hx
        go_wp2_with fail
        refine HSH2.out.mono ?_
        rintro e w5 ⟨rfl, hk⟩
        have HD := Lib.hid (HC.out.keeps hk.out)
        clear HSH2 HC hk z2 p0 p1 p2 p3 p4 p5 p6 p7 p8
        go_upto_if 110 with fail
        go_cut [97] from 97 to 153 (fun t wx => t = .int .i64 i ∧ ∃ (fv ov : Value), Hid (RefI w0 wx vb (.slice ro rn rc) (.slice lo ln lc) pv fv ov lkb gv (.slice (some ⟨b, 0, none⟩) 1 1) R Lk (tabL (accW R FA)) (fixF sh (FA ++ [((yh1, yh2), yk, yo, (ya1, ya2), (yb1, yb2), yi)])) (looF sh (FA ++ [((yh1, yh2), yk, yo, (ya1, ya2), (yb1, yb2), yi)])) (accH (qb1, qb2) FA) [((yh1, yh2), yk, yo, (ya1, ya2), (yb1, yb2), yi)]))
        case first =>
         cases x
         case true =>
          have hmem : (yh1, yh2) ∈ sh := by exact of_decide_eq_true HX.out
          have HFX := Lib.hid (fixF_app (F := FA) (y := ((yh1, yh2), yk, yo, (ya1, ya2), (yb1, yb2), yi)) hmem)
          clear hmem HX
          have v3 := (cf7 HD.out.M).2.2.2.2.2.2.1
          have p0 := one_at HD.out.Y 0 _ rfl
          have p1 := one_at HD.out.Y 1 _ rfl
          have p2 := one_at HD.out.Y 2 _ rfl
          have p3 := one_at HD.out.Y 3 _ rfl
          have p4 := one_at HD.out.Y 4 _ rfl
          have p5 := one_at HD.out.Y 5 _ rfl
          have p6 := one_at HD.out.Y 6 _ rfl
          have p7 := one_at HD.out.Y 7 _ rfl
          have p8 := one_at HD.out.Y 8 _ rfl
          have HK2 := Lib.hid (HD.out.keeps ((Keeps.refl (fun _ => False) w5).alloc (bM yk yh1 yh2 yo ya1 ya2 yb1 yb2 yi)))
          have HSZ := Lib.hid (show vb + 1 ≤ (w5.alloc (bM yk yh1 yh2 yo ya1 ya2 yb1 yb2 yi)).heap.size from lt_of_heap HK2.out.M)
          go_wp2_with (at_builtin; refine app_fp (E := stmE) rfl _ _ rfl (vb + 1) fv (fixF sh FA) rfl HK2.out.F _ [((yh1, yh2), yk, yo, (ya1, ya2), (yb1, yb2), yi)] rfl (one_srcK (E := stmE) w5 ((yh1, yh2), yk, yo, (ya1, ya2), (yb1, yb2), yi) #[.int .i64 yk, .string ⟨yh1.toArray⟩, .string ⟨yh2.toArray⟩, .string ⟨yo.toArray⟩, .string ⟨ya1.toArray⟩, .string ⟨ya2.toArray⟩, .string ⟨yb1.toArray⟩, .string ⟨yb2.toArray⟩, .string ⟨yi.toArray⟩] rfl).1 (by simp) (by have := len_fixF sh FA; simp only [List.length_cons, List.length_nil]; omega) HSZ.out ?_)
          intro ao' cap' w6 ho hk hf
          obtain ⟨nn, hnn⟩ : ∃ nn, (fixF sh FA).length + 1 = nn := ⟨_, rfl⟩
          rw [hnn] at ho hf ⊢
          have HE := Lib.hid (HK2.out.fix hk ho (fun k e => (hf k e).imp id (fun z => by rw [size_alloc]; exact z)))
          have hM6 := (hk.block _ (lt_of_heap HK2.out.M) (fun e => by have := own_block HK2.out.F _ e; omega)).trans HK2.out.M
          clear HK2 HSZ HD ho hk hf hnn v3 p0 p1 p2 p3 p4 p5 p6 p7 p8
          rw [← HFX.out.1, ← HFX.out.2] at HE
          have v3 := (cf7 hM6).2.2.2.2.2.2.1
          have f3 := (cf7 hM6).2.2.2.2.2.2.2.1
          clear hM6 HFX
          go_wp2_with fail
          go_meet
          exact ⟨rfl, _, _, HE⟩
         case false =>
          have hmem : (yh1, yh2) ∉ sh := by exact of_decide_eq_false HX.out
          have HFX := Lib.hid (looF_app (F := FA) (y := ((yh1, yh2), yk, yo, (ya1, ya2), (yb1, yb2), yi)) hmem)
          clear hmem HX
          have v4 := (cf7 HD.out.M).2.2.2.2.2.2.2.2.1
          have p0 := one_at HD.out.Y 0 _ rfl
          have p1 := one_at HD.out.Y 1 _ rfl
          have p2 := one_at HD.out.Y 2 _ rfl
          have p3 := one_at HD.out.Y 3 _ rfl
          have p4 := one_at HD.out.Y 4 _ rfl
          have p5 := one_at HD.out.Y 5 _ rfl
          have p6 := one_at HD.out.Y 6 _ rfl
          have p7 := one_at HD.out.Y 7 _ rfl
          have p8 := one_at HD.out.Y 8 _ rfl
          have HK2 := Lib.hid (HD.out.keeps ((Keeps.refl (fun _ => False) w5).alloc (bM yk yh1 yh2 yo ya1 ya2 yb1 yb2 yi)))
          have HSZ := Lib.hid (show vb + 1 ≤ (w5.alloc (bM yk yh1 yh2 yo ya1 ya2 yb1 yb2 yi)).heap.size from lt_of_heap HK2.out.M)
          go_wp2_with (at_builtin; refine app_fp (E := stmE) rfl _ _ rfl (vb + 1) ov (looF sh FA) rfl HK2.out.O _ [((yh1, yh2), yk, yo, (ya1, ya2), (yb1, yb2), yi)] rfl (one_srcK (E := stmE) w5 ((yh1, yh2), yk, yo, (ya1, ya2), (yb1, yb2), yi) #[.int .i64 yk, .string ⟨yh1.toArray⟩, .string ⟨yh2.toArray⟩, .string ⟨yo.toArray⟩, .string ⟨ya1.toArray⟩, .string ⟨ya2.toArray⟩, .string ⟨yb1.toArray⟩, .string ⟨yb2.toArray⟩, .string ⟨yi.toArray⟩] rfl).1 (by simp) (by have := len_looF sh FA; simp only [List.length_cons, List.length_nil]; omega) HSZ.out ?_)
          intro ao' cap' w6 ho hk hf
          obtain ⟨nn, hnn⟩ : ∃ nn, (looF sh FA).length + 1 = nn := ⟨_, rfl⟩
          rw [hnn] at ho hf ⊢
          have HE := Lib.hid (HK2.out.loose hk ho (fun k e => (hf k e).imp id (fun z => by rw [size_alloc]; exact z)))
          have hM6 := (hk.block _ (lt_of_heap HK2.out.M) (fun e => by have := own_block HK2.out.O _ e; omega)).trans HK2.out.M
          clear HK2 HSZ HD ho hk hf hnn v4 p0 p1 p2 p3 p4 p5 p6 p7 p8
          rw [← HFX.out.1, ← HFX.out.2] at HE
          have v4 := (cf7 hM6).2.2.2.2.2.2.2.2.1
          have f4 := (cf7 hM6).2.2.2.2.2.2.2.2.2.1
          clear hM6 HFX
          go_wp2_with fail
          go_meet
          exact ⟨rfl, _, _, HE⟩
        case rest =>
         obtain ⟨rfl, fv, ov, HE⟩ := hcut
         clear HD HX
         by_cases hk1 : yk = 1
         case pos =>
          subst hk1
          have p0 := one_at HE.out.Y 0 _ rfl
          have p1 := one_at HE.out.Y 1 _ rfl
          have p2 := one_at HE.out.Y 2 _ rfl
          have p3 := one_at HE.out.Y 3 _ rfl
          have p4 := one_at HE.out.Y 4 _ rfl
          have p5 := one_at HE.out.Y 5 _ rfl
          have p6 := one_at HE.out.Y 6 _ rfl
          have p7 := one_at HE.out.Y 7 _ rfl
          have p8 := one_at HE.out.Y 8 _ rfl
          have HPT := Lib.hid (ref_put_at HE.out.P.1 (by have := tab_len (accW R FA); have := len_accW R FA; omega) yo)
          have v2 := (cf7 HE.out.M).2.2.2.2.1
          go_upto_region 29 with fail
          go_wp2_with fail
          have HE0 := Lib.hid HE.out
          clear HE
          refine HPT.out.mono ?_
          rintro e w6 ⟨pv2, rfl, hk⟩
          have HP2 : Hid (RowX w6 pv2 (tabL ((accW R FA) ++ [yo])) (Ap3 vb fv ov gv)) := by
           rw [← put_tabL]
           exact fresh_row HE0.out.P hk.out.2.1 hk.out.2.2 (put_pos _ _) (fun k hk2 => HE0.out.ap hk2)
          obtain ⟨p2o, p2c, hp2, _⟩ := id hk.out.2.1
          obtain ⟨p2n, hp2n⟩ : ∃ n, (putS (tabL (accW R FA)) yo).length = n := ⟨_, rfl⟩
          rw [hp2n] at hp2
          subst hp2
          have HE := Lib.hid (HE0.out.prins hk.out.1 HP2.out)
          have HMP := Lib.hid (HE0.out.keeps hk.out.1).M
          skip
          clear HPT hk HP2 hp2n v2 HE0 p0 p1 p2 p3 p4 p5 p6 p7 p8
          have v2 := (cf7 HMP.out).2.2.2.2.1
          have f2 := (cf7 HMP.out).2.2.2.2.2.1
          clear HMP
          go_upto_region 30 with fail
          clear v2 f2
          generalize w6.setCell ⟨vb, 2, none⟩ (.slice p2o p2n p2c) = w7 at *
          cases lkb
          case false =>
           have HN : Hid (RefI w0 (w7.setCell ⟨vb, 6, none⟩ (.bool false)) vb (.slice ro rn rc) (.slice lo ln lc) (.slice p2o p2n p2c) fv ov (lkF (foli gr sh R Lk st (i + 1))) gv (.slice none 0 0) R Lk (tabL (accW R (foli gr sh R Lk st (i + 1)))) (fixF sh (foli gr sh R Lk st (i + 1))) (looF sh (foli gr sh R Lk st (i + 1))) (accH (qb1, qb2) (foli gr sh R Lk st (i + 1))) []) := by
            rw [HFI.out, accW_yes rfl, accH_no (show ¬((1 : Int) = 3 ∨ (1 : Int) = 4) by decide), lkF_app, HLKB.out]
            exact (HE.out.link false).one (rdX_nil _ _ _)
           have v6 := (cf7 HE.out.M).2.2.2.2.2.2.2.2.2.2.2.2.1
           have f6 := (cf7 HE.out.M).2.2.2.2.2.2.2.2.2.2.2.2.2
           have p0 := one_at HE.out.Y 0 _ rfl
           have p1 := one_at HE.out.Y 1 _ rfl
           have p2 := one_at HE.out.Y 2 _ rfl
           have p3 := one_at HE.out.Y 3 _ rfl
           have p4 := one_at HE.out.Y 4 _ rfl
           have p5 := one_at HE.out.Y 5 _ rfl
           have p6 := one_at HE.out.Y 6 _ rfl
           have p7 := one_at HE.out.Y 7 _ rfl
           have p8 := one_at HE.out.Y 8 _ rfl
           clear HE HFI HLKB
           go_wp2_with fail
           go_roundg (an - (i + 1))
           case measure => omega
           case rel => exact ⟨i + 1, _, _, _, _, by omega, rfl, by go_num, rfl, HN⟩
          case true =>
           have HN : Hid (RefI w0 (w7.setCell ⟨vb, 6, none⟩ (.bool true)) vb (.slice ro rn rc) (.slice lo ln lc) (.slice p2o p2n p2c) fv ov (lkF (foli gr sh R Lk st (i + 1))) gv (.slice none 0 0) R Lk (tabL (accW R (foli gr sh R Lk st (i + 1)))) (fixF sh (foli gr sh R Lk st (i + 1))) (looF sh (foli gr sh R Lk st (i + 1))) (accH (qb1, qb2) (foli gr sh R Lk st (i + 1))) []) := by
            rw [HFI.out, accW_yes rfl, accH_no (show ¬((1 : Int) = 3 ∨ (1 : Int) = 4) by decide), lkF_app, HLKB.out]
            exact (HE.out.link true).one (rdX_nil _ _ _)
           have v6 := (cf7 HE.out.M).2.2.2.2.2.2.2.2.2.2.2.2.1
           have f6 := (cf7 HE.out.M).2.2.2.2.2.2.2.2.2.2.2.2.2
           have p0 := one_at HE.out.Y 0 _ rfl
           have p1 := one_at HE.out.Y 1 _ rfl
           have p2 := one_at HE.out.Y 2 _ rfl
           have p3 := one_at HE.out.Y 3 _ rfl
           have p4 := one_at HE.out.Y 4 _ rfl
           have p5 := one_at HE.out.Y 5 _ rfl
           have p6 := one_at HE.out.Y 6 _ rfl
           have p7 := one_at HE.out.Y 7 _ rfl
           have p8 := one_at HE.out.Y 8 _ rfl
           clear HE HFI HLKB
           go_wp2_with fail
           go_roundg (an - (i + 1))
           case measure => omega
           case rel => exact ⟨i + 1, _, _, _, _, by omega, rfl, by go_num, rfl, HN⟩
         case neg =>
          by_cases hk3 : yk = 3
          case pos =>
           subst hk3
           have p0 := one_at HE.out.Y 0 _ rfl
           have p1 := one_at HE.out.Y 1 _ rfl
           have p2 := one_at HE.out.Y 2 _ rfl
           have p3 := one_at HE.out.Y 3 _ rfl
           have p4 := one_at HE.out.Y 4 _ rfl
           have p5 := one_at HE.out.Y 5 _ rfl
           have p6 := one_at HE.out.Y 6 _ rfl
           have p7 := one_at HE.out.Y 7 _ rfl
           have p8 := one_at HE.out.Y 8 _ rfl
           have HK2 := Lib.hid (HE.out.keeps ((Keeps.refl (fun _ => False) wc).alloc (bR ya1 ya2)))
           have HSZ := Lib.hid (show vb + 1 ≤ (wc.alloc (bR ya1 ya2)).heap.size from lt_of_heap HK2.out.M)
           go_upto_region 31 with fail
           go_wp2_with (at_builtin; refine app_fp (E := rolE) rfl _ _ rfl (vb + 1) gv (accH (qb1, qb2) FA) rfl HK2.out.G _ [(ya1, ya2)] rfl (one_srcK (E := rolE) wc (ya1, ya2) #[.string ⟨ya1.toArray⟩, .string ⟨ya2.toArray⟩] rfl).1 (by simp) (by have := len_accH (qb1, qb2) FA; simp only [List.length_cons, List.length_nil]; omega) HSZ.out ?_)
           intro ao' cap' w6 ho hk hf
           obtain ⟨nn, hnn⟩ : ∃ nn, (accH (qb1, qb2) FA).length + 1 = nn := ⟨_, rfl⟩
           rw [hnn] at ho hf ⊢
           have HG2 := Lib.hid (HK2.out.sig hk ho (fun k e => (hf k e).imp id (fun z => by rw [size_alloc]; exact z)))
           clear HK2 HSZ HE ho hk hf hnn p0 p1 p2 p3 p4 p5 p6 p7 p8
           go_upto_region 32 with fail
           cases lkb
           case false =>
            have HN : Hid (RefI w0 (w6.setCell ⟨vb, 6, none⟩ (.bool true)) vb (.slice ro rn rc) (.slice lo ln lc) pv fv ov (lkF (foli gr sh R Lk st (i + 1))) (.slice ao' nn cap') (.slice none 0 0) R Lk (tabL (accW R (foli gr sh R Lk st (i + 1)))) (fixF sh (foli gr sh R Lk st (i + 1))) (looF sh (foli gr sh R Lk st (i + 1))) (accH (qb1, qb2) (foli gr sh R Lk st (i + 1))) []) := by
             rw [HFI.out, accW_no (show (3 : Int) ≠ 1 by decide), accH_yes (show (3 : Int) = 3 ∨ (3 : Int) = 4 by decide), lkF_app, HLKB.out]
             exact (HG2.out.link true).one (rdX_nil _ _ _)
            have v6 := (cf7 HG2.out.M).2.2.2.2.2.2.2.2.2.2.2.2.1
            have f6 := (cf7 HG2.out.M).2.2.2.2.2.2.2.2.2.2.2.2.2
            have p0 := one_at HG2.out.Y 0 _ rfl
            have p1 := one_at HG2.out.Y 1 _ rfl
            have p2 := one_at HG2.out.Y 2 _ rfl
            have p3 := one_at HG2.out.Y 3 _ rfl
            have p4 := one_at HG2.out.Y 4 _ rfl
            have p5 := one_at HG2.out.Y 5 _ rfl
            have p6 := one_at HG2.out.Y 6 _ rfl
            have p7 := one_at HG2.out.Y 7 _ rfl
            have p8 := one_at HG2.out.Y 8 _ rfl
            clear HG2 HFI HLKB
            go_wp2_with fail
            go_roundg (an - (i + 1))
            case measure => omega
            case rel => exact ⟨i + 1, _, _, _, _, by omega, rfl, by go_num, rfl, HN⟩
           case true =>
            have HN : Hid (RefI w0 (w6.setCell ⟨vb, 6, none⟩ (.bool true)) vb (.slice ro rn rc) (.slice lo ln lc) pv fv ov (lkF (foli gr sh R Lk st (i + 1))) (.slice ao' nn cap') (.slice none 0 0) R Lk (tabL (accW R (foli gr sh R Lk st (i + 1)))) (fixF sh (foli gr sh R Lk st (i + 1))) (looF sh (foli gr sh R Lk st (i + 1))) (accH (qb1, qb2) (foli gr sh R Lk st (i + 1))) []) := by
             rw [HFI.out, accW_no (show (3 : Int) ≠ 1 by decide), accH_yes (show (3 : Int) = 3 ∨ (3 : Int) = 4 by decide), lkF_app, HLKB.out]
             exact (HG2.out.link true).one (rdX_nil _ _ _)
            have v6 := (cf7 HG2.out.M).2.2.2.2.2.2.2.2.2.2.2.2.1
            have f6 := (cf7 HG2.out.M).2.2.2.2.2.2.2.2.2.2.2.2.2
            have p0 := one_at HG2.out.Y 0 _ rfl
            have p1 := one_at HG2.out.Y 1 _ rfl
            have p2 := one_at HG2.out.Y 2 _ rfl
            have p3 := one_at HG2.out.Y 3 _ rfl
            have p4 := one_at HG2.out.Y 4 _ rfl
            have p5 := one_at HG2.out.Y 5 _ rfl
            have p6 := one_at HG2.out.Y 6 _ rfl
            have p7 := one_at HG2.out.Y 7 _ rfl
            have p8 := one_at HG2.out.Y 8 _ rfl
            clear HG2 HFI HLKB
            go_wp2_with fail
            go_roundg (an - (i + 1))
            case measure => omega
            case rel => exact ⟨i + 1, _, _, _, _, by omega, rfl, by go_num, rfl, HN⟩
          case neg =>
           by_cases hk4 : yk = 4
           case pos =>
            subst hk4
            have p0 := one_at HE.out.Y 0 _ rfl
            have p1 := one_at HE.out.Y 1 _ rfl
            have p2 := one_at HE.out.Y 2 _ rfl
            have p3 := one_at HE.out.Y 3 _ rfl
            have p4 := one_at HE.out.Y 4 _ rfl
            have p5 := one_at HE.out.Y 5 _ rfl
            have p6 := one_at HE.out.Y 6 _ rfl
            have p7 := one_at HE.out.Y 7 _ rfl
            have p8 := one_at HE.out.Y 8 _ rfl
            have HK2 := Lib.hid (HE.out.keeps ((Keeps.refl (fun _ => False) wc).alloc (bR ya1 ya2)))
            have HSZ := Lib.hid (show vb + 1 ≤ (wc.alloc (bR ya1 ya2)).heap.size from lt_of_heap HK2.out.M)
            go_upto_region 31 with fail
            go_wp2_with (at_builtin; refine app_fp (E := rolE) rfl _ _ rfl (vb + 1) gv (accH (qb1, qb2) FA) rfl HK2.out.G _ [(ya1, ya2)] rfl (one_srcK (E := rolE) wc (ya1, ya2) #[.string ⟨ya1.toArray⟩, .string ⟨ya2.toArray⟩] rfl).1 (by simp) (by have := len_accH (qb1, qb2) FA; simp only [List.length_cons, List.length_nil]; omega) HSZ.out ?_)
            intro ao' cap' w6 ho hk hf
            obtain ⟨nn, hnn⟩ : ∃ nn, (accH (qb1, qb2) FA).length + 1 = nn := ⟨_, rfl⟩
            rw [hnn] at ho hf ⊢
            have HG2 := Lib.hid (HK2.out.sig hk ho (fun k e => (hf k e).imp id (fun z => by rw [size_alloc]; exact z)))
            clear HK2 HSZ HE ho hk hf hnn p0 p1 p2 p3 p4 p5 p6 p7 p8
            go_upto_region 32 with fail
            cases lkb
            case false =>
             have HN : Hid (RefI w0 (w6.setCell ⟨vb, 6, none⟩ (.bool false)) vb (.slice ro rn rc) (.slice lo ln lc) pv fv ov (lkF (foli gr sh R Lk st (i + 1))) (.slice ao' nn cap') (.slice none 0 0) R Lk (tabL (accW R (foli gr sh R Lk st (i + 1)))) (fixF sh (foli gr sh R Lk st (i + 1))) (looF sh (foli gr sh R Lk st (i + 1))) (accH (qb1, qb2) (foli gr sh R Lk st (i + 1))) []) := by
              rw [HFI.out, accW_no (show (4 : Int) ≠ 1 by decide), accH_yes (show (4 : Int) = 3 ∨ (4 : Int) = 4 by decide), lkF_app, HLKB.out]
              exact (HG2.out.link false).one (rdX_nil _ _ _)
             have v6 := (cf7 HG2.out.M).2.2.2.2.2.2.2.2.2.2.2.2.1
             have f6 := (cf7 HG2.out.M).2.2.2.2.2.2.2.2.2.2.2.2.2
             have p0 := one_at HG2.out.Y 0 _ rfl
             have p1 := one_at HG2.out.Y 1 _ rfl
             have p2 := one_at HG2.out.Y 2 _ rfl
             have p3 := one_at HG2.out.Y 3 _ rfl
             have p4 := one_at HG2.out.Y 4 _ rfl
             have p5 := one_at HG2.out.Y 5 _ rfl
             have p6 := one_at HG2.out.Y 6 _ rfl
             have p7 := one_at HG2.out.Y 7 _ rfl
             have p8 := one_at HG2.out.Y 8 _ rfl
             clear HG2 HFI HLKB
             go_wp2_with fail
             go_roundg (an - (i + 1))
             case measure => omega
             case rel => exact ⟨i + 1, _, _, _, _, by omega, rfl, by go_num, rfl, HN⟩
            case true =>
             have HN : Hid (RefI w0 (w6.setCell ⟨vb, 6, none⟩ (.bool true)) vb (.slice ro rn rc) (.slice lo ln lc) pv fv ov (lkF (foli gr sh R Lk st (i + 1))) (.slice ao' nn cap') (.slice none 0 0) R Lk (tabL (accW R (foli gr sh R Lk st (i + 1)))) (fixF sh (foli gr sh R Lk st (i + 1))) (looF sh (foli gr sh R Lk st (i + 1))) (accH (qb1, qb2) (foli gr sh R Lk st (i + 1))) []) := by
              rw [HFI.out, accW_no (show (4 : Int) ≠ 1 by decide), accH_yes (show (4 : Int) = 3 ∨ (4 : Int) = 4 by decide), lkF_app, HLKB.out]
              exact (HG2.out.link true).one (rdX_nil _ _ _)
             have v6 := (cf7 HG2.out.M).2.2.2.2.2.2.2.2.2.2.2.2.1
             have f6 := (cf7 HG2.out.M).2.2.2.2.2.2.2.2.2.2.2.2.2
             have p0 := one_at HG2.out.Y 0 _ rfl
             have p1 := one_at HG2.out.Y 1 _ rfl
             have p2 := one_at HG2.out.Y 2 _ rfl
             have p3 := one_at HG2.out.Y 3 _ rfl
             have p4 := one_at HG2.out.Y 4 _ rfl
             have p5 := one_at HG2.out.Y 5 _ rfl
             have p6 := one_at HG2.out.Y 6 _ rfl
             have p7 := one_at HG2.out.Y 7 _ rfl
             have p8 := one_at HG2.out.Y 8 _ rfl
             clear HG2 HFI HLKB
             go_wp2_with fail
             go_roundg (an - (i + 1))
             case measure => omega
             case rel => exact ⟨i + 1, _, _, _, _, by omega, rfl, by go_num, rfl, HN⟩
           case neg =>
            obtain rfl : yk = 2 := by omega
            cases lkb
            case false =>
             have HN : Hid (RefI w0 (wc.setCell ⟨vb, 6, none⟩ (.bool false)) vb (.slice ro rn rc) (.slice lo ln lc) pv fv ov (lkF (foli gr sh R Lk st (i + 1))) gv (.slice none 0 0) R Lk (tabL (accW R (foli gr sh R Lk st (i + 1)))) (fixF sh (foli gr sh R Lk st (i + 1))) (looF sh (foli gr sh R Lk st (i + 1))) (accH (qb1, qb2) (foli gr sh R Lk st (i + 1))) []) := by
              rw [HFI.out, accW_no (show (2 : Int) ≠ 1 by decide), accH_no (show ¬((2 : Int) = 3 ∨ (2 : Int) = 4) by decide), lkF_app, HLKB.out]
              exact (HE.out.link false).one (rdX_nil _ _ _)
             have v6 := (cf7 HE.out.M).2.2.2.2.2.2.2.2.2.2.2.2.1
             have f6 := (cf7 HE.out.M).2.2.2.2.2.2.2.2.2.2.2.2.2
             have p0 := one_at HE.out.Y 0 _ rfl
             have p1 := one_at HE.out.Y 1 _ rfl
             have p2 := one_at HE.out.Y 2 _ rfl
             have p3 := one_at HE.out.Y 3 _ rfl
             have p4 := one_at HE.out.Y 4 _ rfl
             have p5 := one_at HE.out.Y 5 _ rfl
             have p6 := one_at HE.out.Y 6 _ rfl
             have p7 := one_at HE.out.Y 7 _ rfl
             have p8 := one_at HE.out.Y 8 _ rfl
             clear HE HFI HLKB
             go_wp2_with fail
             go_roundg (an - (i + 1))
             case measure => omega
             case rel => exact ⟨i + 1, _, _, _, _, by omega, rfl, by go_num, rfl, HN⟩
            case true =>
             have HN : Hid (RefI w0 (wc.setCell ⟨vb, 6, none⟩ (.bool true)) vb (.slice ro rn rc) (.slice lo ln lc) pv fv ov (lkF (foli gr sh R Lk st (i + 1))) gv (.slice none 0 0) R Lk (tabL (accW R (foli gr sh R Lk st (i + 1)))) (fixF sh (foli gr sh R Lk st (i + 1))) (looF sh (foli gr sh R Lk st (i + 1))) (accH (qb1, qb2) (foli gr sh R Lk st (i + 1))) []) := by
              rw [HFI.out, accW_no (show (2 : Int) ≠ 1 by decide), accH_no (show ¬((2 : Int) = 3 ∨ (2 : Int) = 4) by decide), lkF_app, HLKB.out]
              exact (HE.out.link true).one (rdX_nil _ _ _)
             have v6 := (cf7 HE.out.M).2.2.2.2.2.2.2.2.2.2.2.2.1
             have f6 := (cf7 HE.out.M).2.2.2.2.2.2.2.2.2.2.2.2.2
             have p0 := one_at HE.out.Y 0 _ rfl
             have p1 := one_at HE.out.Y 1 _ rfl
             have p2 := one_at HE.out.Y 2 _ rfl
             have p3 := one_at HE.out.Y 3 _ rfl
             have p4 := one_at HE.out.Y 4 _ rfl
             have p5 := one_at HE.out.Y 5 _ rfl
             have p6 := one_at HE.out.Y 6 _ rfl
             have p7 := one_at HE.out.Y 7 _ rfl
             have p8 := one_at HE.out.Y 8 _ rfl
             clear HE HFI HLKB
             go_wp2_with fail
             go_roundg (an - (i + 1))
             case measure => omega
             case rel => exact ⟨i + 1, _, _, _, _, by omega, rfl, by go_num, rfl, HN⟩
      ·obtain rfl : an = i := by omega
       have hiI : ¬ (an : Int) < (an : Int) := by omega
       have HI4 : Hid (RefI w0 wr vb (.slice ro rn rc) (.slice lo ln lc) pv fv ov (lkF (foli gr sh R Lk st an)) gv (.slice none 0 0) R Lk (tabL (accW R (foli gr sh R Lk st an))) (fixF sh (foli gr sh R Lk st an)) (looF sh (foli gr sh R Lk st an)) (accH (qb1, qb2) (foli gr sh R Lk st an)) []) := HI.out
       have hfa : (foli gr sh R Lk st an) = (List.filter (folB gr sh R Lk) st) := by
        unfold foli
        rw [List.take_of_length_le (by rw [HNS.out]; exact Nat.le_refl _)]
       rw [hfa] at HI4
       clear hfa HI
       obtain ⟨F, hF⟩ : ∃ F, (List.filter (folB gr sh R Lk) st) = F := ⟨_, rfl⟩
       have hFl : F.length ≤ 60 := by
        have := List.length_filter_le (folB gr sh R Lk) st
        rw [hF, HNS.out] at this
        omega
       have HFQ := Lib.hid hF
       rw [hF] at HI4
       obtain ⟨U0, hU0⟩ : ∃ U0, accW R F = U0 := ⟨_, rfl⟩
       have hUl : U0.length ≤ 300 := by have := len_accW R F; rw [← hU0]; omega
       have HU0 := Lib.hid hU0
       obtain ⟨G0, hG0⟩ : ∃ G0, accH (qb1, qb2) F = G0 := ⟨_, rfl⟩
       have hGl : G0.length ≤ 300 := by have := len_accH (qb1, qb2) F; rw [← hG0]; omega
       have HG9 := Lib.hid hG0
       rw [hU0, hG0] at HI4
       clear hF hU0 hG0
       have HPW := Lib.hid ((HI4.out.K.block _ (lt_of_heap HPB0.out) (fun x => x)).trans HPB0.out)
       obtain ⟨z0, g0, z1, g1, z2, g2, z3, g3⟩ := cf4 HPW.out
       clear g0 g1 g2 g3 z0 z3 HPW
       obtain ⟨bs, hbs⟩ : ∃ q, wr.heap.size = q := ⟨_, rfl⟩
       have HBS := Lib.hid hbs
       clear hbs
       go_upto_region 34 with fail
       have HMK198 : Hid (∀ w' : World, KF wr w' → w'.cell? ⟨bWA, 1, none⟩ = some (.slice bo bn bc) ∧ w'.cell? ⟨bWA, 2, none⟩ = some (.slice co cn cc)) := fun w' hk => ⟨kc hk z1, kc hk z2⟩
       have HKX198 : Hid (KF wr wr.drew) := (Keeps.refl _ _).drew
       have hS0 := HMK198.out _ HKX198.out
       clear z1 z2
       refine wp_region_noPanic ?_
       refine wp_region_held_drew (S := (fun w' => w'.cell? ⟨bWA, 1, none⟩ = some (.slice bo bn bc) ∧ w'.cell? ⟨bWA, 2, none⟩ = some (.slice co cn cc))) (by kernel_rfl) hS0 (fun hHeld => ?_)
       clear hS0
       generalize wr.drew = wA at *
       refine tk 1 rfl hHeld ?_
       refine tk 2 rfl hHeld ?_
       refine tk 4 rfl hHeld ?_
       (try simp only [nz])
       refine tk 5 rfl hHeld ?_
       refine tk 8 rfl hHeld ?_
       (try simp only [nz])
       refine on1 0 rfl fun KK hK => ?_
       have hkE : KF wA (wA.alloc (.cells #[] 28)) := (Keeps.refl _ _).alloc _
       have HOW : Hid (OwnK rolE bs (wA.alloc (.cells #[] 28)) (.slice (some ⟨wA.heap.size, 0, none⟩) 0 0) ([] : List Rol)) := ownK_lit rolE (by have := HKX198.out.size; have := HBS.out; omega)
       replace HKX198 := Lib.hid (HKX198.out.trans hkE)
       clear hkE
       go_simp
       refine hK.out _ _ (HMK198.out _ HKX198.out) fun hHeld => ?_
       clear hK KK
       (try simp only [nz])
       generalize (wA.alloc (.cells #[] 28)) = wB at *
       obtain ⟨ev, hev⟩ : ∃ ev, Value.slice (some ⟨wA.heap.size, 0, none⟩) 0 0 = ev := ⟨_, rfl⟩
       (try simp only [hev])
       (try simp only [hev] at HOW)
       clear hev
       refine on1 3 rfl fun KK hK => ?_
       have hlo : bs ≤ wB.heap.size := by have := HKX198.out.size; have := HBS.out; omega
       refine step_app_k (E := rolE) rfl (.tmp 154) (.tmp 156) rfl bs ev [] (by simp [Act.eval, Act.put] <;> rfl) HOW.out _ gr (by simp [Act.eval, Act.put] <;> rfl) (HG0.out.keeps (HI4.out.K.trans HKX198.out)) (by simp; omega) hlo ?_
       intro evC wC ho hk
       have hk0 : KF wr wC := HKX198.out.trans_new hk (fun q hq e => by have := own_block HOW.out q e; have := HBS.out; omega)
       replace HKX198 := Lib.hid hk0
       replace HOW := Lib.hid ho
       clear hk0 hk ho hlo
       (try go_simp)
       refine hK.out _ _ (HMK198.out _ HKX198.out) fun hHeld => ?_
       clear hK KK
       (try simp only [nz])
       refine on1 6 rfl fun KK hK => ?_
       have hlo : bs ≤ wC.heap.size := by have := HKX198.out.size; have := HBS.out; omega
       refine step_app_k (E := rolE) rfl (.tmp 157) (.tmp 159) rfl bs evC ([] ++ gr) (by simp [Act.eval, Act.put] <;> rfl) HOW.out _ sh (by simp [Act.eval, Act.put] <;> rfl) (HH0.out.keeps (HI4.out.K.trans HKX198.out)) (by simp; omega) hlo ?_
       intro evD wD ho hk
       have hk0 : KF wr wD := HKX198.out.trans_new hk (fun q hq e => by have := own_block HOW.out q e; have := HBS.out; omega)
       replace HKX198 := Lib.hid hk0
       replace HOW := Lib.hid ho
       clear hk0 hk ho hlo
       (try go_simp)
       refine hK.out _ _ (HMK198.out _ HKX198.out) fun hHeld => ?_
       clear hK KK
       (try simp only [nz])
       obtain ⟨C, hC⟩ : ∃ C, [] ++ gr ++ sh = C := ⟨_, rfl⟩
       have HCQ : Hid (gr ++ sh = C) := hC
       have hcl : C.length ≤ 120 := by rw [← hC]; simp; omega
       rw [hC] at HOW
       clear hC
       obtain ⟨co5, cc5, hv5, hle5, _⟩ := id HOW.out.reads
       obtain ⟨nC, hnC⟩ : ∃ n, C.length = n := ⟨_, rfl⟩
       have HNC := Lib.hid hnC
       rw [hnC] at hv5 hle5 hcl
       subst hv5
       clear hnC
       refine on1 7 rfl fun KK hK => ?_
       go_simp
       refine hK.out _ _ (HMK198.out _ HKX198.out) fun hHeld => ?_
       clear hK KK
       (try simp only [nz])
       refine wpAnyH_done (by kernel_rfl) ?_ _
       refine NoPanic.normal ?_
       clear hHeld HMK198
       have HI5 : Hid ((RefI w0 wD vb (.slice ro rn rc) (.slice lo ln lc) pv fv ov (lkF F) gv (.slice none 0 0) R Lk (tabL (accC U0 Lk C 0)) (fixF sh F) (looF sh F) G0 []) ∧ RdX rolE wD (.slice co5 nC cc5) C (fun k => k ≠ vb)) := ⟨by rw [show accC U0 Lk C 0 = U0 from List.append_nil _]; exact HI4.out.keeps HKX198.out, HOW.out.rdX (fun k hk _ => by have := lt_of_heap HI4.out.M; have := HBS.out; show k ≠ vb; omega)⟩
       clear HI4 HOW HKX198 HBS
       go_wp2_with fail
       go_loopg [162] nC (fun g t wx => ∃ (i : Nat) (pv : Value), i ≤ nC ∧ g = nC - i ∧ t = .int .i64 i ∧ Hid ((RefI w0 wx vb (.slice ro rn rc) (.slice lo ln lc) pv fv ov (lkF F) gv (.slice none 0 0) R Lk (tabL (accC U0 Lk C i)) (fixF sh F) (looF sh F) G0 []) ∧ RdX rolE wx (.slice co5 nC cc5) C (fun k => k ≠ vb)))
       case atStart => exact ⟨0, _, Nat.zero_le _, rfl, rfl, HI5.out⟩
       case round =>
        clear HI5
        obtain ⟨i, pv, hi, rfl, rfl, HI⟩ := hrel
        by_cases hlt : i < nC
        ·skip
         have hiI : (i : Int) < (nC : Int) := by omega
         have hwi : IntKind.i64.wrap ((i : Int) + 1) = (i : Int) + 1 := IntWalk.i64_in _ (by omega)
         have hicap : i < cc5 := by omega
         obtain ⟨y, hy⟩ : ∃ y, C[i]? = some y := ⟨_, List.getElem?_eq_getElem (by rw [HNC.out]; exact hlt)⟩
         obtain ⟨aoz, cpz, ez, hez, hrz⟩ := id HI.out.2.1.1
         obtain ⟨g, off, hao, hg, hcc⟩ := hrz (by rw [HNC.out]; omega)
         simp only [Value.slice.injEq] at ez
         obtain ⟨rfl, hzz, rfl⟩ := ez
         subst hao
         have hc := hcc i y hy
         have HY := Lib.hid hy
         obtain ⟨yr1, yr2⟩ := y
         clear hcc hrz hez hzz hy
         have c0 : wr.cell? ⟨g, off + i * 2, none⟩ = some (.string ⟨yr1.toArray⟩) := hc 0 _ rfl
         have c1 : wr.cell? ⟨g, off + i * 2 + 1, none⟩ = some (.string ⟨yr2.toArray⟩) := hc 1 _ rfl
         have hal := (MapKept.heap_alloc wr (bR yr1 yr2)).1
         have hka : KF wr (wr.alloc (bR yr1 yr2)) := (Keeps.refl _ _).alloc _
         have HB := Lib.hid hal
         have HJ : Hid ((RefI w0 (wr.alloc (bR yr1 yr2)) vb (.slice ro rn rc) (.slice lo ln lc) pv fv ov (lkF F) gv (.slice none 0 0) R Lk (tabL (accC U0 Lk C i)) (fixF sh F) (looF sh F) G0 []) ∧ RdX rolE (wr.alloc (bR yr1 yr2)) (.slice (some ⟨g, off, none⟩) nC cc5) C (fun k => k ≠ vb)) := ⟨HI.out.1.keeps hka, HI.out.2.keeps hka (fun _ _ _ x => x)⟩
         obtain ⟨b, hb⟩ : ∃ b, wr.heap.size = b := ⟨_, rfl⟩
         rw [hb] at HB
         go_upto_region 37 with fail
         (try simp only [hb])
         clear hal hka hb HI hc c0 c1 hg
         generalize wr.alloc (bR yr1 yr2) = w3 at *
         obtain ⟨p0, f0, p1, f1⟩ := cf2 HB.out
         have v1 := (cf7 HJ.out.1.M).2.2.1
         have HCO := Lib.hid (ref_has HJ.out.1.L.1 (by omega) yr2)
         obtain ⟨x, hx⟩ : ∃ x, decide (yr2 ∈ Lk) = x := ⟨_, rfl⟩
         rw [hx] at HCO
         have HX := Lib.hid hx
         clear hx f0 f1
         go_wp2_with fail
         refine HCO.out.mono ?_
         rintro e w4 ⟨rfl, rfl⟩
         clear HCO v1 p0 p1
         cases x
         case true =>
          obtain ⟨p0, f0, p1, f1⟩ := cf2 HB.out
          have HAX := Lib.hid (accC_yes (U := U0) HY.out (of_decide_eq_true HX.out))
          have HPT := Lib.hid (ref_put_at HJ.out.1.P.1 (by have := tab_len (accC U0 Lk C i); have := accC_len U0 Lk C i; have := HNC.out; omega) yr1)
          have v2 := (cf7 HJ.out.1.M).2.2.2.2.1
          clear f0 f1 HX HY
          go_upto_region 38 with fail
          go_wp2_with fail
          have HJ1 := Lib.hid HJ.out.1
          have HJ2 := Lib.hid HJ.out.2
          clear HJ
          refine HPT.out.mono ?_
          rintro e w5 ⟨pv2, rfl, hk⟩
          have HP2 : Hid (RowX w5 pv2 (tabL ((accC U0 Lk C i) ++ [yr1])) (Ap3 vb fv ov gv)) := by
           rw [← put_tabL]
           exact fresh_row HJ1.out.P hk.out.2.1 hk.out.2.2 (put_pos _ _) (fun k hk2 => HJ1.out.ap hk2)
          obtain ⟨p2o, p2c, hp2, _⟩ := id hk.out.2.1
          obtain ⟨p2n, hp2n⟩ : ∃ n, (putS (tabL (accC U0 Lk C i)) yr1).length = n := ⟨_, rfl⟩
          rw [hp2n] at hp2
          subst hp2
          have HE := Lib.hid (HJ1.out.prins hk.out.1 HP2.out)
          have HMP := Lib.hid (HJ1.out.keeps hk.out.1).M
          have HC5 := Lib.hid ((HJ2.out.keeps hk.out.1 (fun _ _ _ x => x)).keeps (Keeps.setCell (S := fun q => q = vb) (Keeps.refl _ _) (p := ⟨vb, 2, none⟩) (u := .slice p2o p2n p2c) (fun _ => rfl)) (fun k _ hp e => hp e))
          clear HJ2
          clear HPT hk HP2 hp2n v2 HJ1 HB p0 p1
          have v2 := (cf7 HMP.out).2.2.2.2.1
          have f2 := (cf7 HMP.out).2.2.2.2.2.1
          clear HMP
          rw [← HAX.out] at HE
          go_wp2_with fail
          clear v2 f2 HAX
          go_roundg (nC - (i + 1))
          case measure => omega
          case rel => exact ⟨i + 1, _, by omega, rfl, by go_num, HE.out, HC5.out⟩
         case false =>
          have HAX := Lib.hid (accC_no (U := U0) HY.out (of_decide_eq_false HX.out))
          have HN : Hid ((RefI w0 w3 vb (.slice ro rn rc) (.slice lo ln lc) pv fv ov (lkF F) gv (.slice none 0 0) R Lk (tabL (accC U0 Lk C (i + 1))) (fixF sh F) (looF sh F) G0 []) ∧ RdX rolE w3 (.slice (some ⟨g, off, none⟩) nC cc5) C (fun k => k ≠ vb)) := by
           rw [HAX.out]
           exact HJ.out
          clear HJ HB HX HY HAX
          go_wp2_with fail
          go_roundg (nC - (i + 1))
          case measure => omega
          case rel => exact ⟨i + 1, _, by omega, rfl, by go_num, HN⟩
        ·obtain rfl : nC = i := by omega
         have hiI : ¬ (nC : Int) < (nC : Int) := by omega
         have HI6 := Lib.hid HI.out.1
         clear HI
         have HSR := Lib.hid (rsortr_spec (rdk_r.1 HI6.out.G.reads) (by omega))
         go_wp2_with fail
         refine HSR.out.mono ?_
         rintro e w2 ⟨gv2, rfl, hk⟩
         have HI7 := Lib.hid (HI6.out.keeps hk.out.1)
         have HGW := Lib.hid (hk.out.2.base (show vb + 1 ≤ wr.heap.size from lt_of_heap HI6.out.M))
         obtain ⟨g2o, g2c, hgv, _⟩ := id HGW.out.reads
         obtain ⟨po, pc, hpv, _⟩ := id HI7.out.P.1
         obtain ⟨fo, fc, hfv, _⟩ := id HI7.out.F.reads
         obtain ⟨oo, oc, hov, _⟩ := id HI7.out.O.reads
         obtain ⟨g2n, hgn⟩ : ∃ n : Nat, gv2 = .slice g2o n g2c := ⟨_, hgv⟩
         obtain ⟨pn, hpn⟩ : ∃ n : Nat, pv = .slice po n pc := ⟨_, hpv⟩
         obtain ⟨fn', hfn⟩ : ∃ n : Nat, fv = .slice fo n fc := ⟨_, hfv⟩
         obtain ⟨on', hon⟩ : ∃ n : Nat, ov = .slice oo n oc := ⟨_, hov⟩
         clear hgv hpv hfv hov hk HSR HI6
         subst hgn hpn hfn hon
         obtain ⟨lk, hlk⟩ : ∃ x, lkF F = x := ⟨_, rfl⟩
         rw [hlk] at HI7
         have HLK := Lib.hid hlk
         clear hlk
         obtain ⟨v0, f0, v1, f1, v2, f2, v3, f3, v4, f4, v5, f5, v6, f6⟩ := cf7 HI7.out.M
         have hv5 := heap_set HI7.out.M 5 (.slice g2o g2n g2c)
         simp only [List.setIfInBounds_toArray, List.set_cons_zero, List.set_cons_succ] at hv5
         have hk5 : Keeps (fun q => q = vb) w2 (w2.setCell ⟨vb, 5, none⟩ (.slice g2o g2n g2c)) := Keeps.setCell (S := fun q => q = vb) (Keeps.refl _ _) (p := ⟨vb, 5, none⟩) (fun _ => rfl) _
         have HVB2 := Lib.hid ((HI7.out.K.block _ (lt_of_heap HVB0.out) (fun x => x)).trans HVB0.out)
         have HNE : Hid (bWC ≠ vb) := by have := lt_of_heap HVB0.out; have := HI7.out.hb; show _ ≠ _; omega
         have hv7 := (hk5.block _ (lt_of_heap HVB2.out) (fun e => HNE.out e)).trans HVB2.out
         clear v0 f0 v1 f1 v2 f2 v3 f3 v4 f4 v6 f6 HVB2
         go_upto_region 41 with fail
         clear v5 f5
         generalize w2.setCell ⟨vb, 5, none⟩ (.slice g2o g2n g2c) = w3 at *
         obtain ⟨v0, f0, v1, f1, v2, f2, v3, f3, v4, f4, v5, f5, v6, f6⟩ := cf7 hv5
         obtain ⟨x0, y0, x1, y1, x2, y2, x3, y3, x4, y4, x5, y5, x6, y6⟩ := cf7 hv7
         have HV7 := Lib.hid hv7
         have HK5 := Lib.hid hk5
         clear hv7 hv5 hk5 f0 f1 f2 f3 f4 f5 f6
         go_wp2_with fail
         have h7 := set7 HV7.out (u0 := .slice ro rn rc) (u1 := .slice lo ln lc) (u2 := .slice po pn pc) (u3 := .slice fo fn' fc) (u4 := .slice oo on' oc) (u5 := .slice g2o g2n g2c) (u6 := .bool lk)
         clear v0 x0 y0 v1 x1 y1 v2 x2 y2 v3 x3 y3 v4 x4 y4 v5 x5 y5 v6 x6 y6
         generalize (((((((w3.setCell ⟨bWC, 0, none⟩ (.slice ro rn rc)).setCell ⟨bWC, 1, none⟩ (.slice lo ln lc)).setCell ⟨bWC, 2, none⟩ (.slice po pn pc)).setCell ⟨bWC, 3, none⟩ (.slice fo fn' fc)).setCell ⟨bWC, 4, none⟩ (.slice oo on' oc)).setCell ⟨bWC, 5, none⟩ (.slice g2o g2n g2c)).setCell ⟨bWC, 6, none⟩ (.bool lk)) = w9 at *
         have HZ : Hid (KF W w9 ∧ VwR w9 (.slice ro rn rc) (.slice lo ln lc) (.slice po pn pc) (.slice fo fn' fc) (.slice oo on' oc) (.slice g2o g2n g2c) R Lk (tabL (whosV gr sh st R Lk)) (fixV gr sh st R Lk) (looseV gr sh st R Lk) (sortO rolLt (sigV gr sh st (qb1, qb2) R Lk))) := by
          have hz := HZV.out
          have hsz := HK0.out.size
          have hb7 := HI7.out.hb
          have e1 : whosV gr sh st R Lk = accC U0 Lk C nC := by
           unfold accC
           rw [List.take_of_length_le (by rw [HNC.out]; exact Nat.le_refl _), ← HU0.out, ← HFQ.out, ← HCQ.out]
           rfl
          have e2 : fixV gr sh st R Lk = fixF sh F := by rw [← HFQ.out]; rfl
          have e3 : looseV gr sh st R Lk = looF sh F := by rw [← HFQ.out]; rfl
          have e4 : sigV gr sh st (qb1, qb2) R Lk = G0 := by rw [← HG9.out, ← HFQ.out]; rfl
          rw [e1, e2, e3, e4]
          have k1 : Keeps (fun q => q = vb ∨ q = bWC) w2 w9 := (HK5.out.mono (fun q _ e => .inl e)).trans (h7.2.mono (fun q _ e => .inr e))
          have hlw : bWC < w0.heap.size := lt_of_heap HVB0.out
          refine ⟨(HK0.out.trans HI7.out.K).trans_new k1 (fun k hk e => by rcases e with e | e <;> omega), ?_⟩
          have hne : ∀ q, vb + 1 ≤ q → ¬ (q = vb ∨ q = bWC) := fun q hq e => by rcases e with e | e <;> omega
          exact ⟨rdk_off (HI7.out.R.keeps HK5.out (fun q _ hp e => hp.1 e)).1.1 HV7.out h7.2, reads_off (HI7.out.L.into HK5.out (fun q _ hp e => hp.1 e) (fun _ _ x => x)).1 HV7.out h7.2, reads_off (HI7.out.P.into HK5.out (fun q _ hp e => hp.1 e) (fun _ _ x => x)).1 HV7.out h7.2, (HI7.out.F.keeps k1 hne).reads, (HI7.out.O.keeps k1 hne).reads, (HGW.out.keeps k1 hne).reads⟩
         obtain ⟨v0, f0, v1, f1, v2, f2, v3, f3, v4, f4, v5, f5, v6, f6⟩ := cf7 h7.1
         clear h7
         have HLQ : Hid (lk = linkV gr sh st R Lk) := by show _ = _; rw [← HLK.out, ← HFQ.out]; rfl
         have elk := HLQ.out
         subst elk
         refine bodyPost_ret (v := .agg #[.slice ro rn rc, .slice lo ln lc, .slice po pn pc, .slice fo fn' fc, .slice oo on' oc, .slice g2o g2n g2c, .bool (linkV gr sh st R Lk)]) (by simp [results, Tryz.results40, go_sem, *]) rfl ?_
         exact ⟨_, _, _, _, _, _, R, Lk, rfl, HZ.out.1, HSH.out.1, HSH.out.2, HZ.out.2⟩
end Go.Proofs.YtededjfjbkcepaaGreat
