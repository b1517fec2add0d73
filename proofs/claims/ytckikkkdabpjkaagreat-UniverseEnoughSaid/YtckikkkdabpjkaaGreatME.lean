/-
 Rows of queries in memory; rows that lie in a stretch of blocks; an append that tells where the new row lies.
-/
import Derived.Test.YtckikkkdabpjkaaGreatMB
import Derived.Test.YtckikkkdabpjkaaGreatMC
import Derived.Test.YtckikkkdabpjkaaGreatRowAt
import Derived.Test.YtckikkkdabpjkaaGreatKit
import Derived.Lib.SmallJoins
set_option linter.unusedVariables false
set_option linter.unusedSimpArgs false
set_option linter.unnecessarySimpa false
namespace Go.Proofs.YtckikkkdabpjkaaGreat
open Go.ChangeShapes Go.WideShapes Go.ChangeAt Go.RowKit Go.Deep
section
variable {α : Type} {E : Elt α}
/-- A slice of a row, and what is known of where it lies. -/
def RdX (E : Elt α) (w : World) (v : Value) (l : List α) (P : Nat → Prop) : Prop := SrcK E w v l ∧ ∀ k, v.ownBlock = some k → k < w.heap.size ∧ P k
theorem RdX.into {w w' : World} {v : Value} {l : List α} {P P' : Nat → Prop} (h : RdX E w v l P) {S : Nat → Prop} (hk : Keeps S w w') (hs : ∀ q, q < w.heap.size → P q → ¬ S q) (hp : ∀ q, q < w.heap.size → P q → P' q) : RdX E w' v l P' := by
 obtain ⟨⟨⟨ao, cap, rfl, hle, hr⟩, hn⟩, hb⟩ := h
 refine ⟨⟨⟨ao, cap, rfl, hle, fun h0 => ?_⟩, hn⟩, fun k hk2 => ⟨Nat.lt_of_lt_of_le (hb k hk2).1 hk.size, hp k (hb k hk2).1 (hb k hk2).2⟩⟩
 obtain ⟨g, off, rfl, h2, h3⟩ := hr h0
 exact ⟨g, off, rfl, Nat.lt_of_lt_of_le h2 hk.size, fun j x hj i u hu => (hk.cell (p := ⟨g, off + j * E.k + i, none⟩) h2 (hs g (hb g rfl).1 (hb g rfl).2)).trans (h3 j x hj i u hu)⟩
theorem RdX.keeps {w w' : World} {v : Value} {l : List α} {P : Nat → Prop} (h : RdX E w v l P) {S : Nat → Prop} (hk : Keeps S w w') (hs : ∀ q, q < w.heap.size → P q → ¬ S q) : RdX E w' v l P := h.into hk hs (fun _ _ p => p)
variable (E) in
theorem rdX_nil (w : World) (P : Nat → Prop) : RdX E w (.slice none 0 0) [] P := ⟨(ownK_nil E 0 w).src, fun k hk => by simp [Value.ownBlock] at hk⟩
/-- As step_app_k, of one element; where the new row lies. -/
theorem step_app_fp {ops : Array Oper} {o : Oper} {a : Act} {w : World} {K : Act → World → Prop} {Q : Exit → Act → World → Prop} {EE : Prop} (hgd : o.guard = none) (s x : Operand)
 (ho : o.op = .call { callee := .builtin .append, args := #[s, x], argTypes := #[E.S, E.S] })
 (base : Nat) (v : Value) (l : List α) (hs : a.eval s = v) (hown : OwnK E base w v l) (xv : Value) (m : List α) (hx : a.eval x = xv) (hr : RdK E w xv m) (hm : 0 < m.length) (hlen : l.length + m.length ≤ 100000) (hbase : base ≤ w.heap.size)
 (hK : ∀ ao' cap' w', OwnK E base w' (.slice ao' (l ++ m).length cap') (l ++ m) → Keeps (fun q => v.ownBlock = some q) w w' → (∀ k, (Value.slice ao' (l ++ m).length cap').ownBlock = some k → v.ownBlock = some k ∨ w.heap.size ≤ k) → K (a.put o.dst (.slice ao' (l ++ m).length cap')) w') :
 if Region.wanted o (yielded ops a.tmps) = true then Oper.wp Tryz.prog o a w K Q else EE := by
 obtain ⟨i0, hi0, hz0, hz1, hz2⟩ := info_parts E.hT
 have hbb := Nat.mul_le_mul hlen E.hb
 obtain ⟨g, off, cap, rfl, hnews⟩ := flat_news hr hm
 have h0 : w.ownsRow 0 E.T E.k v l.length (flat E l) := ownsRow_base hown (Nat.zero_le _)
 refine step_append_fp hgd s x E.S ho E.T i0 E.z E.k E.bytes E.hS hi0 hz0 hz1 hz2 E.hz E.pos v l.length (flat E l) hs h0 ⟨g, off, none⟩ m.length cap (flat E m) hx (flat_len E m) hnews (flat_one E m) hm (by unfold maxLen; omega) (by omega) (fun ao' cap' w' h1 h2 h3 => ?_)
 have hq := hK ao' cap' w'
 rw [List.length_append] at hq
 refine hq ?_ (keeps_grown h2) h3
 show w'.ownsRow base E.T E.k _ (l ++ m).length (flat E (l ++ m))
 rw [List.length_append, flat_app]
 refine ⟨h1.1, ?_⟩
 rcases h1.2 with hn | ⟨g', cap2, cur, e1, _, r⟩
 ·exact .inl hn
 ·refine .inr ⟨g', cap2, cur, e1, ?_, r⟩
  rcases h3 g' (by rw [e1]; rfl) with q | q
  ·exact own_block hown g' q
  ·omega
/-- As app_k, of one element; where the new row lies. -/
theorem app_fp {ops : Array Oper} {rest : List Oper} {o : Oper} {a : Act} {Q : Exit → Act → World → Prop} {w : World} (hgd : o.guard = none) (s x : Operand)
 (ho : o.op = .call { callee := .builtin .append, args := #[s, x], argTypes := #[E.S, E.S] })
 (base : Nat) (v : Value) (l : List α) (hs : a.eval s = v) (hown : OwnK E base w v l) (xv : Value) (m : List α) (hx : a.eval x = xv) (hr : RdK E w xv m) (hm : 0 < m.length) (hlen : l.length + m.length ≤ 100000) (hbase : base ≤ w.heap.size)
 (hK : ∀ ao' cap' w', OwnK E base w' (.slice ao' (l ++ m).length cap') (l ++ m) → Keeps (fun q => v.ownBlock = some q) w w' → (∀ k, (Value.slice ao' (l ++ m).length cap').ownBlock = some k → v.ownBlock = some k ∨ w.heap.size ≤ k) → wpList Tryz.prog ops Q rest (a.put o.dst (.slice ao' (l ++ m).length cap')) w') : wpList Tryz.prog ops Q (o :: rest) a w := by
 refine wpList_plain hgd fun K hKK => ?_
 have q := step_app_fp (E := E) (ops := ops) (K := K) (Q := Q) (EE := True) hgd s x ho base v l hs hown xv m hx hr hm hlen hbase (fun ao' cap' w' h1 h2 h3 => hKK _ _ (hK ao' cap' w' h1 h2 h3))
 have hw : Region.wanted o (yielded ops a.tmps) = true := by simp [Region.wanted, hgd]
 rw [if_pos hw] at q
 exact q
end
/-- A query as its six cells say it: who is asked of is a slice. -/
abbrev QV := Int × Rol × Rol × (Option Addr × Nat × Nat)
def whoV (q : QV) : Value := .slice q.2.2.2.1 q.2.2.2.2.1 q.2.2.2.2.2
def qEnc (q : QV) : List Value := [.int .i64 q.1, .string ⟨q.2.1.1.toArray⟩, .string ⟨q.2.1.2.toArray⟩, .string ⟨q.2.2.1.1.toArray⟩, .string ⟨q.2.2.1.2.toArray⟩, whoV q]
theorem qInfo : (Tryz.prog.info? 31).map (fun i => (i.zero, i.size, i.bytes)) = some (some (.agg #[.int .i64 0, .string ⟨#[]⟩, .string ⟨#[]⟩, .string ⟨#[]⟩, .string ⟨#[]⟩, .slice none 0 0]), 6, 96) := by kernel_rfl
theorem q_one (x : QV) : ∀ v ∈ qEnc x, v.oneCell' = true := fun v hv => by
 unfold qEnc at hv
 simp only [List.mem_cons, List.not_mem_nil, or_false] at hv
 rcases hv with rfl | rfl | rfl | rfl | rfl | rfl <;> rfl
def qE : Elt QV where
 enc := qEnc
 k := 6
 pos := by decide
 len := fun _ => rfl
 one := q_one
 T := 31
 S := 24
 z := .agg #[.int .i64 0, .string ⟨#[]⟩, .string ⟨#[]⟩, .string ⟨#[]⟩, .string ⟨#[]⟩, .slice none 0 0]
 bytes := 96
 hS := Tryz.underlying24
 hT := qInfo
 hz := rfl
 hb := by decide
/-- A query's cells say a query. -/
def RelQ (lo : Nat) (w : World) (qv : QV) (q : Qry) : Prop := qv.1 = q.1 ∧ qv.2.1 = q.2.1 ∧ qv.2.2.1 = q.2.2.1 ∧ RowAt lo w (whoV qv) q.2.2.2
theorem RelQ.keeps {lo : Nat} {w w' : World} {qv : QV} {q : Qry} (h : RelQ lo w qv q) {S : Nat → Prop} (hk : Keeps S w w') (hs : ∀ q, lo ≤ q → q < w.heap.size → ¬ S q) : RelQ lo w' qv q := ⟨h.1, h.2.1, h.2.2.1, h.2.2.2.keeps hk hs⟩
/-- A row of queries of the program's own, while it is made. -/
def QRow (lo : Nat) (w : World) (v : Value) (l : List Qry) : Prop :=
 ∃ lv : List QV, lv.length = l.length ∧ OwnK qE lo w v lv ∧ ∀ (j : Nat) (q : Qry) (qv : QV), l[j]? = some q → lv[j]? = some qv → RelQ lo w qv q ∧ ∀ k, (whoV qv).ownBlock = some k → v.ownBlock ≠ some k
theorem QRow.nil (lo : Nat) (w : World) : QRow lo w (.slice none 0 0) [] := ⟨[], rfl, ownK_nil qE _ _, fun j q qv h => by cases h⟩
theorem QRow.keeps {lo : Nat} {w w' : World} {v : Value} {l : List Qry} (h : QRow lo w v l) {S : Nat → Prop} (hk : Keeps S w w') (hs : ∀ q, lo ≤ q → q < w.heap.size → ¬ S q) : QRow lo w' v l := by
 obtain ⟨lv, h1, h2, h3⟩ := h
 exact ⟨lv, h1, ownsRow_keeps' h2 hk (fun q hq => hs q (own_block h2 q hq) (own_lt h2 q hq)), fun j q qv hq hv => ⟨(h3 j q qv hq hv).1.keeps hk hs, (h3 j q qv hq hv).2⟩⟩
/-- A row of texts, and what is known of where it lies. -/
def RowX (w : World) (v : Value) (l : List Str) (P : Nat → Prop) : Prop := ReadsS w v l ∧ ∀ k, v.ownBlock = some k → k < w.heap.size ∧ P k
theorem RowX.into {w w' : World} {v : Value} {l : List Str} {P P' : Nat → Prop} (h : RowX w v l P) {S : Nat → Prop} (hk : Keeps S w w') (hs : ∀ q, q < w.heap.size → P q → ¬ S q) (hp : ∀ q, q < w.heap.size → P q → P' q) : RowX w' v l P' := by
 obtain ⟨⟨ao, cap, rfl, hle, hr⟩, hb⟩ := h
 refine ⟨⟨ao, cap, rfl, hle, fun h0 => ?_⟩, fun k hk2 => ⟨Nat.lt_of_lt_of_le (hb k hk2).1 hk.size, hp k (hb k hk2).1 (hb k hk2).2⟩⟩
 obtain ⟨g, off, rfl, h2, h3⟩ := hr h0
 exact ⟨g, off, rfl, Nat.lt_of_lt_of_le h2 hk.size, fun j x hj => (hk.cell (p := ⟨g, off + j, none⟩) h2 (hs g (hb g rfl).1 (hb g rfl).2)).trans (h3 j x hj)⟩
def RelX (w : World) (qv : QV) (q : Qry) (P : Nat → Prop) : Prop := qv.1 = q.1 ∧ qv.2.1 = q.2.1 ∧ qv.2.2.1 = q.2.2.1 ∧ RowX w (whoV qv) q.2.2.2 P
/-- A row of queries that is read. -/
def QRX (w : World) (v : Value) (l : List Qry) (P : Nat → Prop) : Prop :=
 ∃ lv : List QV, lv.length = l.length ∧ RdX qE w v lv P ∧ ∀ (j : Nat) (q : Qry) (qv : QV), l[j]? = some q → lv[j]? = some qv → RelX w qv q P
theorem QRX.into {w w' : World} {v : Value} {l : List Qry} {P P' : Nat → Prop} (h : QRX w v l P) {S : Nat → Prop} (hk : Keeps S w w') (hs : ∀ q, q < w.heap.size → P q → ¬ S q) (hp : ∀ q, q < w.heap.size → P q → P' q) : QRX w' v l P' := by
 obtain ⟨lv, h1, h2, h3⟩ := h
 exact ⟨lv, h1, h2.into hk hs hp, fun j q qv hq hv => ⟨(h3 j q qv hq hv).1, (h3 j q qv hq hv).2.1, (h3 j q qv hq hv).2.2.1, (h3 j q qv hq hv).2.2.2.into hk hs hp⟩⟩
theorem QRX.keeps {w w' : World} {v : Value} {l : List Qry} {P : Nat → Prop} (h : QRX w v l P) {S : Nat → Prop} (hk : Keeps S w w') (hs : ∀ q, q < w.heap.size → P q → ¬ S q) : QRX w' v l P := h.into hk hs (fun _ _ p => p)
/-- A policy's four rows, and where they lie. -/
def PolX (w : World) (v0 v1 v2 v3 : Value) (p : Pol) (P : Nat → Prop) : Prop := RdX stmE w v0 p.1 P ∧ RdX rolE w v1 p.2.1 P ∧ RdX rolE w v2 p.2.2.1 P ∧ QRX w v3 p.2.2.2 P
theorem PolX.into {w w' : World} {v0 v1 v2 v3 : Value} {p : Pol} {P P' : Nat → Prop} (h : PolX w v0 v1 v2 v3 p P) {S : Nat → Prop} (hk : Keeps S w w') (hs : ∀ q, q < w.heap.size → P q → ¬ S q) (hp : ∀ q, q < w.heap.size → P q → P' q) : PolX w' v0 v1 v2 v3 p P' :=
 ⟨h.1.into hk hs hp, h.2.1.into hk hs hp, h.2.2.1.into hk hs hp, h.2.2.2.into hk hs hp⟩
end Go.Proofs.YtckikkkdabpjkaaGreat
/-
 Policies, queries, roles and statements that come in as arguments, opened.
-/
set_option linter.unusedVariables false
set_option linter.unusedSimpArgs false
namespace Go.Proofs.YtckikkkdabpjkaaGreat
open Go.ChangeShapes Go.WideShapes Go.ChangeAt Go.RowKit Go.Deep
set_option maxRecDepth 100000
section
variable {H : Type} {enc : TypeId × Value → H} {w : World} {base : Nat} {held : Bool}
theorem lt_of_shape {w : World} {b : Nat} {x : TypeId × Nat} (h : w.shape? b = some x) : b < w.heap.size := by
 unfold World.shape? at h
 rcases Nat.lt_or_ge b w.heap.size with q | q
 ·exact q
 ·rw [Array.getElem?_eq_none q] at h; simp at h
theorem cell_lt {P : Program} {r : Reach} {u : TypeId} {ao : Option Addr} {n c : Nat} (h : Cell.okWide P w r base u (.slice ao n c)) : (∀ k, (Value.slice ao n c).ownBlock = some k → k < w.heap.size) ∧ (ao = none → c = 0) := by
 have h1 : Cell.ok P w r base u (.slice ao n c) := by
  unfold Cell.okWide at h
  split at h <;> first | exact h | (rename_i e _; cases e) | (rename_i e; cases e)
 unfold Cell.ok at h1
 split at h1 <;> (try contradiction)
 ·rename_i heq
  cases heq
  exact ⟨fun k hk => by simp [Value.ownBlock] at hk, fun _ => rfl⟩
 ·rename_i heq
  cases heq
  obtain ⟨_, _, _, _, row, cells, hs, _⟩ := h1
  exact ⟨fun k hk => by simp only [Value.ownBlock, Option.map_some, Option.some.injEq] at hk; rw [← hk]; exact lt_of_shape hs, fun e => by cases e⟩
theorem rdk_of_row {α : Type} [Inhabited α] {E : Elt α} {ls : List Leaf} {ao : Option Addr} {n cap : Nat} {G : Nat → Nat → Value} (R : IsRow w ls ao n cap G) (hk : ls.length = E.k) (hd : ∀ f : Nat → Value, (∀ (j : Nat) (l : Leaf), ls[j]? = some l → l.ok (f j)) → ∃ x, ∀ (i : Nat) (u : Value), (E.enc x)[i]? = some u → u = f i) : ∃ l : List α, l.length = n ∧ RdK E w (.slice ao n cap) l := by
 obtain ⟨f, hf⟩ := choose_lt (n := n) (fun i hi => hd (G i) (fun j l hl => R.ok i j l hi hl))
 refine ⟨(List.range n).map f, by simp, ao, cap, by simp, by have := R.le; simpa using this, fun h0 => ?_⟩
 have h0' : 0 < n := by simpa using h0
 obtain ⟨b, off, h1, h2, h3⟩ := R.at_ h0'
 refine ⟨b, off, h1, h2, fun j x hj i u hu => ?_⟩
 rw [List.getElem?_map] at hj
 rcases Nat.lt_or_ge j n with hl | hl
 ·rw [List.getElem?_range hl] at hj
  simp only [Option.map_some, Option.some.injEq] at hj
  subst hj
  have hi : i < ls.length := by
   rcases Nat.lt_or_ge i (E.enc (f j)).length with q | q
   ·rw [E.len] at q; omega
   ·rw [List.getElem?_eq_none q] at hu; cases hu
  rw [hf j hl i u hu, ← hk, Nat.add_assoc]
  exact h3 j i hl hi
 ·rw [List.getElem?_eq_none (by simpa using hl)] at hj; cases hj
theorem str_of {f : Value} (h : Leaf.string.ok f) : ∃ s : Str, f = .string ⟨s.toArray⟩ ∧ s.length ≤ maxLen := by
 obtain ⟨s, h, hl⟩ := h
 exact ⟨s.data.toList, by rw [h], by simpa using hl⟩
def stmLs : List Leaf := [.int .i64, .string, .string, .string, .string, .string, .string, .string, .string]
theorem stm_dec (f : Nat → Value) (h : ∀ (j : Nat) (l : Leaf), stmLs[j]? = some l → l.ok (f j)) : ∃ x, ∀ (i : Nat) (u : Value), (stmE.enc x)[i]? = some u → u = f i := by
 obtain ⟨a0, e0, _⟩ := h 0 _ rfl
 obtain ⟨a1, e1, _⟩ := str_of (h 1 _ rfl)
 obtain ⟨a2, e2, _⟩ := str_of (h 2 _ rfl)
 obtain ⟨a3, e3, _⟩ := str_of (h 3 _ rfl)
 obtain ⟨a4, e4, _⟩ := str_of (h 4 _ rfl)
 obtain ⟨a5, e5, _⟩ := str_of (h 5 _ rfl)
 obtain ⟨a6, e6, _⟩ := str_of (h 6 _ rfl)
 obtain ⟨a7, e7, _⟩ := str_of (h 7 _ rfl)
 obtain ⟨a8, e8, _⟩ := str_of (h 8 _ rfl)
 refine ⟨((a1, a2), a0, a3, (a4, a5), (a6, a7), a8), fun i u hu => ?_⟩
 match i, hu with
 | 0, hu => rw [e0]; exact (Option.some.inj hu).symm
 | 1, hu => rw [e1]; exact (Option.some.inj hu).symm
 | 2, hu => rw [e2]; exact (Option.some.inj hu).symm
 | 3, hu => rw [e3]; exact (Option.some.inj hu).symm
 | 4, hu => rw [e4]; exact (Option.some.inj hu).symm
 | 5, hu => rw [e5]; exact (Option.some.inj hu).symm
 | 6, hu => rw [e6]; exact (Option.some.inj hu).symm
 | 7, hu => rw [e7]; exact (Option.some.inj hu).symm
 | 8, hu => rw [e8]; exact (Option.some.inj hu).symm
 | i + 9, hu => rw [List.getElem?_eq_none (by rw [stmE.len]; show 9 ≤ _; omega)] at hu; cases hu
theorem rol_dec (f : Nat → Value) (h : ∀ (j : Nat) (l : Leaf), [Leaf.string, .string][j]? = some l → l.ok (f j)) : ∃ x, ∀ (i : Nat) (u : Value), (rolE.enc x)[i]? = some u → u = f i := by
 obtain ⟨a1, e1, _⟩ := str_of (h 0 _ rfl)
 obtain ⟨a2, e2, _⟩ := str_of (h 1 _ rfl)
 refine ⟨(a1, a2), fun i u hu => ?_⟩
 match i, hu with
 | 0, hu => rw [e1]; exact (Option.some.inj hu).symm
 | 1, hu => rw [e2]; exact (Option.some.inj hu).symm
 | i + 2, hu => rw [List.getElem?_eq_none (by rw [rolE.len]; show 2 ≤ _; omega)] at hu; cases hu
/-- A slice of strings. -/
theorem strs_of_trod {fuel : Nat} {cs : List Value} {x : DataW H × List MemPlace} (h : DataW.trod enc Tryz.prog w base (fun _ => true) held fuel 29 cs = some x) : ∃ (ao : Option Addr) (cap : Nat) (l : List Str), cs = [.slice ao l.length cap] ∧ ReadsS w (.slice ao l.length cap) l ∧ (ao = none → cap = 0) ∧ cap ≤ maxLen := by
 obtain ⟨ao, n, cap, rfl⟩ := Go.Joins.slice_form Tryz.underlying29 h
 obtain ⟨G, R⟩ := isRow_of_trod (n := 9) (ls := [.string]) Tryz.underlying29 (by kernel_rfl) (by kernel_rfl) (by decide) h
 have hz : ao = none → cap = 0 := fun e => by
  subst e
  rcases open_slice Tryz.underlying29 h with ⟨q, _⟩ | ⟨a, len', cap', m, n', D, Pl, hcs, _⟩
  ·simp only [List.cons.injEq, Value.slice.injEq, and_true] at q; exact q.2.2
  ·simp at hcs
 have key : ∀ i, i < n → ∃ x : Str, G i 0 = encStr x := fun i hi => by
  obtain ⟨s, h, _⟩ := R.ok i 0 _ hi rfl
  exact ⟨s.data.toList, h.trans (enc_str s)⟩
 obtain ⟨f, hf⟩ := choose_lt key
 obtain ⟨l, hl⟩ : ∃ l, (List.range n).map f = l := ⟨_, rfl⟩
 have hn : l.length = n := by rw [← hl]; simp
 refine ⟨ao, cap, l, by rw [hn], ⟨ao, cap, rfl, by have := R.le; omega, fun h0 => ?_⟩, hz, R.max⟩
 obtain ⟨b, off, h1, h2, h3⟩ := R.at_ (by omega)
 refine ⟨b, off, h1, h2, fun j x hj => ?_⟩
 rw [← hl, List.getElem?_map] at hj
 rcases Nat.lt_or_ge j n with hl | hl
 ·rw [List.getElem?_range hl] at hj
  simp only [Option.map_some, Option.some.injEq] at hj
  subst hj
  rw [← hf j hl]
  have q := h3 j 0 hl (by decide)
  simpa using q
 ·rw [List.getElem?_eq_none (by simpa using hl)] at hj; cases hj
/-- A query's cells. -/
theorem qry_of_trod {fuel : Nat} {cs : List Value} {x : DataW H × List MemPlace} (h : DataW.trod enc Tryz.prog w base (fun _ => true) held fuel 31 cs = some x) : ∃ (q : Qry) (ao : Option Addr) (cap : Nat), cs = qEnc (q.1, q.2.1, q.2.2.1, (ao, q.2.2.2.length, cap)) ∧ ReadsS w (.slice ao q.2.2.2.length cap) q.2.2.2 ∧ (ao = none → cap = 0) ∧ (q.2.1.1.length ≤ maxLen ∧ q.2.1.2.length ≤ maxLen ∧ q.2.2.1.1.length ≤ maxLen ∧ q.2.2.1.2.length ≤ maxLen) ∧ (Lit.int .i64 q.1).wf = true := by
 obtain ⟨y0, y1, y2, y3, n, _, hl, h0, h1, h2, h3⟩ := Go.Joins.trod_struct4 Tryz.underlying31 h
 have hl6 : cs.length = 6 := hl.trans (by kernel_rfl)
 match cs, hl6 with
 | [c0, c1, c2, c3, c4, c5], _ =>
  have e0 : Tryz.prog.cellsOf 3 = 1 := by kernel_rfl
  have e1 : Tryz.prog.cellsOf 28 = 2 := by kernel_rfl
  have e2 : Tryz.prog.cellsOf 29 = 1 := by kernel_rfl
  simp only [e0, e1, e2, List.drop, List.take] at h0 h1 h2 h3
  have f0 := fits_of_trod 9 3 [.int .i64] (by kernel_rfl) _ _ _ h0
  have f1 := fits_of_trod 9 28 [.string, .string] (by kernel_rfl) _ _ _ h1
  have f2 := fits_of_trod 9 28 [.string, .string] (by kernel_rfl) _ _ _ h2
  obtain ⟨v0, g0, k0, rfl, hw⟩ := f0 0 _ rfl
  obtain ⟨v1, g1, k1⟩ := f1 0 _ rfl
  obtain ⟨v2, g2, k2⟩ := f1 1 _ rfl
  obtain ⟨v3, g3, k3⟩ := f2 0 _ rfl
  obtain ⟨v4, g4, k4⟩ := f2 1 _ rfl
  obtain ⟨s1, rfl, l1⟩ := str_of k1
  obtain ⟨s2, rfl, l2⟩ := str_of k2
  obtain ⟨s3, rfl, l3⟩ := str_of k3
  obtain ⟨s4, rfl, l4⟩ := str_of k4
  obtain ⟨ao, cap, l, hcs, hr, hz, _⟩ := strs_of_trod h3
  simp only [List.getElem?_cons_zero, List.getElem?_cons_succ, Nat.zero_add, Option.some.injEq] at g0 g1 g2 g3 g4
  simp only [List.cons.injEq, and_true] at hcs
  subst g0 g1 g2 g3 g4 hcs
  exact ⟨(k0, (s1, s2), (s3, s4), l), ao, cap, rfl, hr, hz, ⟨l1, l2, l3, l4⟩, hw⟩
/-- A slice of queries, each with whom it names. -/
theorem asks_of_trod {fuel : Nat} {ao : Option Addr} {n cap : Nat} {x : DataW H × List MemPlace} (h : DataW.trod enc Tryz.prog w base (fun _ => true) held fuel 24 [.slice ao n cap] = some x) : ∃ (l : List Qry) (lv : List QV), l.length = n ∧ lv.length = n ∧ RdK qE w (.slice ao n cap) lv ∧ ∀ (j : Nat) (q : Qry) (qv : QV), l[j]? = some q → lv[j]? = some qv → qv.1 = q.1 ∧ qv.2.1 = q.2.1 ∧ qv.2.2.1 = q.2.2.1 ∧ ReadsS w (whoV qv) q.2.2.2 := by
 rcases open_slice Tryz.underlying24 h with ⟨h0, _⟩ | ⟨a, len', cap', m, n', D, Pl, hcs, hb, hl, hm, hmm, rfl, hx⟩
 ·simp only [List.cons.injEq, Value.slice.injEq, and_true] at h0
  obtain ⟨rfl, rfl, rfl⟩ := h0
  exact ⟨[], [], rfl, rfl, ⟨none, 0, rfl, Nat.le_refl _, fun h => absurd h (by simp)⟩, fun j q qv h => by cases h⟩
 ·simp only [List.cons.injEq, Value.slice.injEq, and_true] at hcs
  obtain ⟨rfl, rfl, rfl⟩ := hcs
  have hlm : n ≤ m := by rw [hmm]; split <;> omega
  have e6 : Tryz.prog.cellsOf 31 = 6 := by kernel_rfl
  rw [e6] at hx
  have key : ∀ i, i < n → ∃ y : Qry × QV, (y.2.1 = y.1.1 ∧ y.2.2.1 = y.1.2.1 ∧ y.2.2.2.1 = y.1.2.2.1 ∧ ReadsS w (whoV y.2) y.1.2.2.2) ∧ ∀ (j : Nat) (u : Value), (qEnc y.2)[j]? = some u → w.cell? ((a.add (i * 6)).add j) = some u := by
   intro i hi
   obtain ⟨cs', h1, h2⟩ := hx i (by omega)
   obtain ⟨_, h3, h4⟩ := World.cells?_some h1
   obtain ⟨q, ao, cap, hq, hr, _⟩ := qry_of_trod h2
   refine ⟨(q, (q.1, q.2.1, q.2.2.1, (ao, q.2.2.2.length, cap))), ⟨rfl, rfl, rfl, hr⟩, fun j u hu => ?_⟩
   have hj : j < 6 := by
    rcases Nat.lt_or_ge j 6 with q | q
    ·exact q
    ·rw [List.getElem?_eq_none (by exact q)] at hu; cases hu
   rw [h4 j hj, hq]
   exact hu
  obtain ⟨f, hf⟩ := choose_lt key
  refine ⟨(List.range n).map (fun i => (f i).1), (List.range n).map (fun i => (f i).2), by simp, by simp, ⟨some a, cap, by simp, by simpa using hl, fun h0 => ?_⟩, fun j q qv hq hv => ?_⟩
  ·have h0' : 0 < n := by simpa using h0
   obtain ⟨b, off, spot⟩ := a
   have hc0 := (hf 0 h0').2 0 _ rfl
   have hspot : spot = none := by
    have := World.cell?_spot hc0
    simpa [Addr.add] using this
   subst hspot
   refine ⟨b, off, rfl, by have := lt_of_cell hc0; simpa [Addr.add] using this, fun j x hj i u hu => ?_⟩
   rw [List.getElem?_map] at hj
   rcases Nat.lt_or_ge j n with hl2 | hl2
   ·rw [List.getElem?_range hl2] at hj
    simp only [Option.map_some, Option.some.injEq] at hj
    subst hj
    have q := (hf j hl2).2 i u hu
    simp only [add_plain] at q
    exact q
   ·rw [List.getElem?_eq_none (by simpa using hl2)] at hj; cases hj
  ·rw [List.getElem?_map] at hq hv
   rcases Nat.lt_or_ge j n with hl2 | hl2
   ·rw [List.getElem?_range hl2] at hq hv
    simp only [Option.map_some, Option.some.injEq] at hq hv
    subst hq hv
    exact (hf j hl2).1
   ·rw [List.getElem?_eq_none (by simpa using hl2)] at hq; cases hq
/-- A policy that came in. -/
structure PolA (W : World) (v0 v1 v2 v3 : Value) (p : Pol) : Prop where
 s : SrcK stmE W v0 p.1
 g : SrcK rolE W v1 p.2.1
 h : SrcK rolE W v2 p.2.2.1
 a : ∃ lv : List QV, lv.length = p.2.2.2.length ∧ RdK qE W v3 lv ∧ ∀ (j : Nat) (q : Qry) (qv : QV), p.2.2.2[j]? = some q → lv[j]? = some qv → qv.1 = q.1 ∧ qv.2.1 = q.2.1 ∧ qv.2.2.1 = q.2.2.1 ∧ ReadsS W (whoV qv) q.2.2.2
 b0 : ∀ k, v0.ownBlock = some k → k < W.heap.size
 b1 : ∀ k, v1.ownBlock = some k → k < W.heap.size
 b2 : ∀ k, v2.ownBlock = some k → k < W.heap.size
end
end Go.Proofs.YtckikkkdabpjkaaGreat
/-
 A policy, a query, a role that come in as arguments.
-/
set_option linter.unusedVariables false
set_option linter.unusedSimpArgs false
namespace Go.Proofs.YtckikkkdabpjkaaGreat
open Go.ChangeShapes Go.WideShapes Go.ChangeAt Go.RowKit Go.Deep
set_option maxRecDepth 100000
section
variable {H : Type} {enc : TypeId × Value → H} {w : World} {base b0 : Nat} {held : Bool} {r : Reach} {v : Value} {d : DataW H} {pl : List MemPlace}
theorem okWide_agg {fs : Array Field} {t : TypeId} (hu : Tryz.prog.underlying t = some (.struct fs)) (hv : Value.okWide Tryz.prog w r b0 t v) : ∃ cs, v = .agg cs ∧ cs.size = Tryz.prog.cellsOf t ∧ Row.okWide Tryz.prog w r b0 t cs := by
 unfold Value.okWide at hv
 rw [hu] at hv
 exact hv
theorem row_cells {t : TypeId} {cs : Array Value} (h : Row.okWide Tryz.prog w r b0 t cs) {i : Nat} {ao : Option Addr} {n c : Nat} (hi : cs[i]? = some (.slice ao n c)) : (∀ k, (Value.slice ao n c).ownBlock = some k → k < w.heap.size) ∧ (ao = none → c = 0) := by
 obtain ⟨ts, _, _, hall⟩ := h
 obtain ⟨u, _, hc⟩ := hall i _ hi
 exact cell_lt hc
theorem pol_open (hv : Value.okWide Tryz.prog w r b0 26 v) (h : DataW.Trod enc Tryz.prog w base (fun _ => true) held 26 v d pl) : ∃ (ao bo co jo : Option Addr) (an ac bn bc cn cc jn jc : Nat) (p : Pol), v = .agg #[.slice ao an ac, .slice bo bn bc, .slice co cn cc, .slice jo jn jc] ∧ PolA w (.slice ao an ac) (.slice bo bn bc) (.slice co cn cc) (.slice jo jn jc) p := by
 obtain ⟨e0, e1, e2, e3, y0, y1, y2, y3, n, rfl, _, _, g0, g1, g2, g3⟩ := Go.Joins.open_agg4 Tryz.underlying26 (by kernel_rfl) (by kernel_rfl) hv h
 have h0 : DataW.trod enc Tryz.prog w base (fun _ => true) held n 22 [e0] = some y0 := g0
 have h1 : DataW.trod enc Tryz.prog w base (fun _ => true) held n 23 [e1] = some y1 := g1
 have h2 : DataW.trod enc Tryz.prog w base (fun _ => true) held n 23 [e2] = some y2 := g2
 have h3 : DataW.trod enc Tryz.prog w base (fun _ => true) held n 24 [e3] = some y3 := g3
 obtain ⟨ao, an, ac, q0⟩ := Go.Joins.slice_form Tryz.underlying22 h0
 obtain ⟨bo, bn, bc, q1⟩ := Go.Joins.slice_form Tryz.underlying23 h1
 obtain ⟨co, cn, cc, q2⟩ := Go.Joins.slice_form Tryz.underlying23 h2
 obtain ⟨jo, jn, jc, q3⟩ := Go.Joins.slice_form Tryz.underlying24 h3
 simp only [List.cons.injEq, and_true] at q0 q1 q2 q3
 subst q0 q1 q2 q3
 obtain ⟨cs, e, _, hr⟩ := okWide_agg Tryz.underlying26 hv
 simp only [Value.agg.injEq] at e
 subst e
 obtain ⟨G0, R0⟩ := isRow_of_trod (n := 9) (ls := stmLs) Tryz.underlying22 (by kernel_rfl) (by kernel_rfl) (by decide) h0
 obtain ⟨G1, R1⟩ := isRow_of_trod (n := 9) (ls := [.string, .string]) Tryz.underlying23 (by kernel_rfl) (by kernel_rfl) (by decide) h1
 obtain ⟨G2, R2⟩ := isRow_of_trod (n := 9) (ls := [.string, .string]) Tryz.underlying23 (by kernel_rfl) (by kernel_rfl) (by decide) h2
 obtain ⟨l0, n0, d0⟩ := rdk_of_row (E := stmE) R0 rfl stm_dec
 obtain ⟨l1, n1, d1⟩ := rdk_of_row (E := rolE) R1 rfl rol_dec
 obtain ⟨l2, n2, d2⟩ := rdk_of_row (E := rolE) R2 rfl rol_dec
 obtain ⟨l3, lv, n3, n3', d3, hl⟩ := asks_of_trod h3
 obtain ⟨b0, z0⟩ := row_cells hr (i := 0) rfl
 obtain ⟨b1, z1⟩ := row_cells hr (i := 1) rfl
 obtain ⟨b2, z2⟩ := row_cells hr (i := 2) rfl
 exact ⟨ao, bo, co, jo, an, ac, bn, bc, cn, cc, jn, jc, (l0, l1, l2, l3), rfl, ⟨d0, fun n c e => by simp only [Value.slice.injEq] at e; rw [← e.2.2]; exact z0 e.1⟩, ⟨d1, fun n c e => by simp only [Value.slice.injEq] at e; rw [← e.2.2]; exact z1 e.1⟩, ⟨d2, fun n c e => by simp only [Value.slice.injEq] at e; rw [← e.2.2]; exact z2 e.1⟩, ⟨lv, n3'.trans n3.symm, d3, hl⟩, b0, b1, b2⟩
theorem qry_open (hv : Value.okWide Tryz.prog w r b0 31 v) (h : DataW.Trod enc Tryz.prog w base (fun _ => true) held 31 v d pl) : ∃ (wo : Option Addr) (wn wc : Nat) (q : Qry), v = qryV q (.slice wo wn wc) ∧ ReadsS w (.slice wo wn wc) q.2.2.2 ∧ (∀ k, (Value.slice wo wn wc).ownBlock = some k → k < w.heap.size) := by
 obtain ⟨cs, rfl, _, hr⟩ := okWide_agg Tryz.underlying31 hv
 obtain ⟨fuel, hf⟩ := h
 obtain ⟨q, ao, cap, hcs, hq, hz, _, _⟩ := qry_of_trod hf
 have e : cs = (qEnc (q.1, q.2.1, q.2.2.1, (ao, q.2.2.2.length, cap))).toArray := by rw [← hcs]; rfl
 subst e
 exact ⟨ao, _, cap, q, rfl, hq, (row_cells hr (i := 5) rfl).1⟩
theorem stms_open (hv : Value.okWide Tryz.prog w r b0 22 v) (h : DataW.Trod enc Tryz.prog w base (fun _ => true) held 22 v d pl) : ∃ (ao : Option Addr) (n c : Nat) (l : List Stm), v = .slice ao n c ∧ SrcK stmE w (.slice ao n c) l := by
 obtain ⟨ao, n, cap, rfl⟩ := okWide_slice Tryz.underlying22 hv
 obtain ⟨fuel, hf⟩ := h
 have h0 : DataW.trod enc Tryz.prog w base (fun _ => true) held fuel 22 [.slice ao n cap] = some (d, pl) := by simpa [Value.cells] using hf
 obtain ⟨G, R⟩ := isRow_of_trod (n := 9) (ls := stmLs) Tryz.underlying22 (by kernel_rfl) (by kernel_rfl) (by decide) h0
 obtain ⟨l, hn, hr⟩ := rdk_of_row (E := stmE) R rfl stm_dec
 have hz : ao = none → cap = 0 := fun e => by
  subst e
  rcases open_slice Tryz.underlying22 h0 with ⟨q, _⟩ | ⟨a, len', cap', m, n', D, Pl, hcs, _⟩
  ·simp only [List.cons.injEq, Value.slice.injEq, and_true] at q; exact q.2.2
  ·simp at hcs
 exact ⟨ao, n, cap, l, rfl, hr, fun n' c e => by simp only [Value.slice.injEq] at e; rw [← e.2.2]; exact hz e.1⟩
end
end Go.Proofs.YtckikkkdabpjkaaGreat
