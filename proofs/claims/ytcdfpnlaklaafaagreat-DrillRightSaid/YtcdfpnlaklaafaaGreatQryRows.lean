/-
 Rows of queries in memory; rows that lie in a stretch of blocks; an append that tells where the new row lies.
-/
import Derived.Test.YtcdfpnlaklaafaaGreatMC
import Derived.Test.YtcdfpnlaklaafaaGreatStmRows
import Derived.Test.YtcdfpnlaklaafaaGreatDrillAsk
set_option linter.unusedVariables false
set_option linter.unusedSimpArgs false
set_option linter.unnecessarySimpa false
namespace Go.Proofs.YtcdfpnlaklaafaaGreat
open Go.ChangeShapes Go.WideShapes Go.ChangeAt Go.RowKit Go.Deep
section
variable {α : Type} {E : Elt α}
/-- A slice of a row, and what is known of where it lies. -/
def RdX (E : Elt α) (w : World) (v : Value) (l : List α) (P : Nat → Prop) : Prop := SrcK E w v l ∧ ∀ k, v.ownBlock = some k → k < w.heap.size ∧ P k
theorem RdX.into {w w' : World} {v : Value} {l : List α} {P P' : Nat → Prop} (h : RdX E w v l P) {S : Nat → Prop} (hk : Keeps S w w') (hs : ∀ q, q < w.heap.size → P q → ¬ S q) (hp : ∀ q, q < w.heap.size → P q → P' q) : RdX E w' v l P' := by
 obtain ⟨⟨⟨ao, cap, rfl, hle, hr⟩, hn⟩, hb⟩ := h
 refine ⟨⟨⟨ao, cap, rfl, hle, fun h0 => ?_⟩, hn⟩, fun k hk2 => ⟨Nat.lt_of_lt_of_le (hb k hk2).1 hk.size, hp k (hb k hk2).1 (hb k hk2).2⟩⟩
 obtain ⟨g, off, rfl, h2, h3⟩ := hr h0
 exact ⟨g, off, rfl, Nat.lt_of_lt_of_le h2 hk.size, fun j x hj i u hu => (hk.cell (p := ⟨g, off + j * E.k + i, none⟩) h2 (hs g (hb g rfl).1 (hb g rfl).2)).trans (h3 j x hj i u hu)⟩
theorem RdX.keeps {w w' : World} {v : Value} {l : List α} {P : Nat → Prop} (h : RdX E w v l P) {S : Nat → Prop} (hk : Keeps S w w') (hs : ∀ q, q < w.heap.size → P q → ¬ S q) : RdX E w' v l P := h.into hk hs (fun _ _ p => p)
theorem OwnK.rdX {lo : Nat} {w : World} {v : Value} {l : List α} {P : Nat → Prop} (h : OwnK E lo w v l) (hp : ∀ k, lo ≤ k → k < w.heap.size → P k) : RdX E w v l P := ⟨h.src, fun k hk => ⟨own_lt h k hk, hp k (own_block h k hk) (own_lt h k hk)⟩⟩
theorem NewAt.rdX {W w : World} {v : Value} {l : List α} {P : Nat → Prop} (hn : NewAt W w v) (h : SrcK E w v l) (hp : ∀ k, W.heap.size ≤ k → k < w.heap.size → P k) : RdX E w v l P := ⟨h, fun k hk => ⟨(hn k hk).2, hp k (hn k hk).1 (hn k hk).2⟩⟩
variable (E) in
theorem rdX_nil (w : World) (P : Nat → Prop) : RdX E w (.slice none 0 0) [] P := ⟨(ownK_nil E 0 w).src, fun k hk => by simp [Value.ownBlock] at hk⟩
/-- As step_app_k, of one element; where the new row lies. -/
theorem step_app_fp {ops : Array Oper} {o : Oper} {a : Act} {w : World} {K : Act → World → Prop} {Q : Exit → Act → World → Prop} {EE : Prop} (hgd : o.guard = none) (s x : Operand)
  (ho : o.op = .call { callee := .builtin .append, args := #[s, x], argTypes := #[E.S, E.S] })
  (base : Nat) (v : Value) (l : List α) (hs : a.eval s = v) (hown : OwnK E base w v l) (xv : Value) (m : List α) (hx : a.eval x = xv) (hr : RdK E w xv m) (hm : 0 < m.length) (hlen : l.length + m.length ≤ 100000) (hbase : base ≤ w.heap.size)
  (hK : ∀ ao' cap' w', OwnK E base w' (.slice ao' (l ++ m).length cap') (l ++ m) → Keeps (fun q => v.ownBlock = some q) w w' → (∀ k, (Value.slice ao' (l ++ m).length cap').ownBlock = some k → v.ownBlock = some k ∨ w.heap.size ≤ k) → K (a.put o.dst (.slice ao' (l ++ m).length cap')) w') :
  if Region.wanted o (yielded ops a.tmps) = true then Oper.wp Tryz.prog o a w K Q else EE := by
 obtain ⟨i0, hi0, hz0, hz1, hz2⟩ := info_parts E.hT
 have hbb := Nat.mul_le_mul hlen E.hb
 obtain ⟨g, off, cap, rfl, hnews⟩ := flat_news hr hm
 have h0 : w.ownsRow 0 E.T E.k v l.length (flat E l) := ownsRow_base hown (Nat.zero_le _)
 refine step_append_fp hgd s x E.S ho E.T i0 E.z E.k E.bytes E.hS hi0 hz0 hz1 hz2 E.hz E.pos v l.length (flat E l) hs h0 ⟨g, off, none⟩ m.length cap (flat E m) hx (flat_len E m) hnews (flat_one E m) hm (by unfold maxLen; omega) (by omega) (fun ao' cap' w' h1 h2 h3 => ?_)
 have hq := hK ao' cap' w'
 rw [List.length_append] at hq
 refine hq ?_ (keeps_grown h2) h3
 show w'.ownsRow base E.T E.k _ (l ++ m).length (flat E (l ++ m))
 rw [List.length_append, flat_app]
 refine ⟨h1.1, ?_⟩
 rcases h1.2 with hn | ⟨g', cap2, cur, e1, _, r⟩
 ·exact .inl hn
 ·refine .inr ⟨g', cap2, cur, e1, ?_, r⟩
  rcases h3 g' (by rw [e1]; rfl) with q | q
  ·exact own_block hown g' q
  ·omega
/-- As app_k, of one element; where the new row lies. -/
theorem app_fp {ops : Array Oper} {rest : List Oper} {o : Oper} {a : Act} {Q : Exit → Act → World → Prop} {w : World} (hgd : o.guard = none) (s x : Operand)
  (ho : o.op = .call { callee := .builtin .append, args := #[s, x], argTypes := #[E.S, E.S] })
  (base : Nat) (v : Value) (l : List α) (hs : a.eval s = v) (hown : OwnK E base w v l) (xv : Value) (m : List α) (hx : a.eval x = xv) (hr : RdK E w xv m) (hm : 0 < m.length) (hlen : l.length + m.length ≤ 100000) (hbase : base ≤ w.heap.size)
  (hK : ∀ ao' cap' w', OwnK E base w' (.slice ao' (l ++ m).length cap') (l ++ m) → Keeps (fun q => v.ownBlock = some q) w w' → (∀ k, (Value.slice ao' (l ++ m).length cap').ownBlock = some k → v.ownBlock = some k ∨ w.heap.size ≤ k) → wpList Tryz.prog ops Q rest (a.put o.dst (.slice ao' (l ++ m).length cap')) w') : wpList Tryz.prog ops Q (o :: rest) a w := by
 refine wpList_plain hgd fun K hKK => ?_
 have q := step_app_fp (E := E) (ops := ops) (K := K) (Q := Q) (EE := True) hgd s x ho base v l hs hown xv m hx hr hm hlen hbase (fun ao' cap' w' h1 h2 h3 => hKK _ _ (hK ao' cap' w' h1 h2 h3))
 have hw : Region.wanted o (yielded ops a.tmps) = true := by simp [Region.wanted, hgd]
 rw [if_pos hw] at q
 exact q
end
/-- A query as its six cells say it: who is asked of is a slice. -/
abbrev QV := Int × Rol × Rol × (Option Addr × Nat × Nat)
def whoV (q : QV) : Value := .slice q.2.2.2.1 q.2.2.2.2.1 q.2.2.2.2.2
def qEnc (q : QV) : List Value := [.int .i64 q.1, .string ⟨q.2.1.1.toArray⟩, .string ⟨q.2.1.2.toArray⟩, .string ⟨q.2.2.1.1.toArray⟩, .string ⟨q.2.2.1.2.toArray⟩, whoV q]
theorem qInfo : (Tryz.prog.info? 49).map (fun i => (i.zero, i.size, i.bytes)) = some (some (.agg #[.int .i64 0, .string ⟨#[]⟩, .string ⟨#[]⟩, .string ⟨#[]⟩, .string ⟨#[]⟩, .slice none 0 0]), 6, 96) := by kernel_rfl
theorem q_one (x : QV) : ∀ v ∈ qEnc x, v.oneCell' = true := fun v hv => by
 unfold qEnc at hv
 simp only [List.mem_cons, List.not_mem_nil, or_false] at hv
 rcases hv with rfl | rfl | rfl | rfl | rfl | rfl <;> rfl
def qE : Elt QV where
 enc := qEnc
 k := 6
 pos := by decide
 len := fun _ => rfl
 one := q_one
 T := 49
 S := 55
 z := .agg #[.int .i64 0, .string ⟨#[]⟩, .string ⟨#[]⟩, .string ⟨#[]⟩, .string ⟨#[]⟩, .slice none 0 0]
 bytes := 96
 hS := Tryz.underlying55
 hT := qInfo
 hz := rfl
 hb := by decide
/-- A query's cells say a query. -/
def RelQ (lo : Nat) (w : World) (qv : QV) (q : Qry) : Prop := qv.1 = q.1 ∧ qv.2.1 = q.2.1 ∧ qv.2.2.1 = q.2.2.1 ∧ RowAt lo w (whoV qv) q.2.2.2
theorem RelQ.keeps {lo : Nat} {w w' : World} {qv : QV} {q : Qry} (h : RelQ lo w qv q) {S : Nat → Prop} (hk : Keeps S w w') (hs : ∀ q, lo ≤ q → q < w.heap.size → ¬ S q) : RelQ lo w' qv q := ⟨h.1, h.2.1, h.2.2.1, h.2.2.2.keeps hk hs⟩
/-- A row of queries of the program's own, while it is made. -/
def QRow (lo : Nat) (w : World) (v : Value) (l : List Qry) : Prop :=
 ∃ lv : List QV, lv.length = l.length ∧ OwnK qE lo w v lv ∧ ∀ (j : Nat) (q : Qry) (qv : QV), l[j]? = some q → lv[j]? = some qv → RelQ lo w qv q ∧ ∀ k, (whoV qv).ownBlock = some k → v.ownBlock ≠ some k
theorem QRow.nil (lo : Nat) (w : World) : QRow lo w (.slice none 0 0) [] := ⟨[], rfl, ownK_nil qE _ _, fun j q qv h => by cases h⟩
theorem QRow.keeps {lo : Nat} {w w' : World} {v : Value} {l : List Qry} (h : QRow lo w v l) {S : Nat → Prop} (hk : Keeps S w w') (hs : ∀ q, lo ≤ q → q < w.heap.size → ¬ S q) : QRow lo w' v l := by
 obtain ⟨lv, h1, h2, h3⟩ := h
 exact ⟨lv, h1, ownsRow_keeps' h2 hk (fun q hq => hs q (own_block h2 q hq) (own_lt h2 q hq)), fun j q qv hq hv => ⟨(h3 j q qv hq hv).1.keeps hk hs, (h3 j q qv hq hv).2⟩⟩
/-- One more. -/
theorem QRow.snoc {lo : Nat} {w w' : World} {v v' : Value} {l : List Qry} {lv : List QV} {qv : QV} {q : Qry} (h1 : lv.length = l.length) (hown : OwnK qE lo w v lv) (h3 : ∀ (j : Nat) (q : Qry) (qv : QV), l[j]? = some q → lv[j]? = some qv → RelQ lo w qv q ∧ ∀ k, (whoV qv).ownBlock = some k → v.ownBlock ≠ some k)
  (hq : RelQ lo w qv q) (hqn : ∀ k, (whoV qv).ownBlock = some k → v.ownBlock ≠ some k) (ho : OwnK qE lo w' v' (lv ++ [qv])) (hk : Keeps (fun q => v.ownBlock = some q) w w') (hf : ∀ k, v'.ownBlock = some k → v.ownBlock = some k ∨ w.heap.size ≤ k) : QRow lo w' v' (l ++ [q]) := by
 have keep : ∀ {qv : QV} {q : Qry}, RelQ lo w qv q → (∀ k, (whoV qv).ownBlock = some k → v.ownBlock ≠ some k) → RelQ lo w' qv q ∧ ∀ k, (whoV qv).ownBlock = some k → v'.ownBlock ≠ some k := fun {qv q} r n => by
  refine ⟨⟨r.1, r.2.1, r.2.2.1, ?_⟩, fun k hk2 e => ?_⟩
  ·obtain ⟨⟨ao, cap, hv, hle, hr⟩, hb⟩ := r.2.2.2
   refine ⟨⟨ao, cap, hv, hle, fun h0 => ?_⟩, fun k hk2 => ⟨(hb k hk2).1, Nat.lt_of_lt_of_le (hb k hk2).2 hk.size⟩⟩
   obtain ⟨g, off, rfl, h2, h3⟩ := hr h0
   exact ⟨g, off, rfl, Nat.lt_of_lt_of_le h2 hk.size, fun j x hj => (hk.cell (p := ⟨g, off + j, none⟩) h2 (n g (by rw [hv]; rfl))).trans (h3 j x hj)⟩
  ·rcases hf k e with q1 | q1
   ·exact n k hk2 q1
   ·have := (r.2.2.2.2 k hk2).2
    omega
 refine ⟨lv ++ [qv], by rw [List.length_append, List.length_append, h1]; rfl, ho, fun j q2 qv2 hj hv => ?_⟩
 rcases Nat.lt_or_ge j l.length with hlt | hge
 ·rw [List.getElem?_append_left hlt] at hj
  rw [List.getElem?_append_left (by rw [h1]; exact hlt)] at hv
  obtain ⟨r, n⟩ := h3 j q2 qv2 hj hv
  exact keep r n
 ·rw [List.getElem?_append_right hge] at hj
  rw [List.getElem?_append_right (by rw [h1]; exact hge), h1] at hv
  have hj0 : j - l.length = 0 := by
   rcases Nat.eq_zero_or_pos (j - l.length) with h | h
   ·exact h
   ·rw [List.getElem?_eq_none (by simp; omega)] at hj; cases hj
  rw [hj0] at hj hv
  simp at hj hv
  subst hj
  subst hv
  exact keep hq hqn
/-- A row of texts, and what is known of where it lies. -/
def RowX (w : World) (v : Value) (l : List Str) (P : Nat → Prop) : Prop := ReadsS w v l ∧ ∀ k, v.ownBlock = some k → k < w.heap.size ∧ P k
theorem RowX.into {w w' : World} {v : Value} {l : List Str} {P P' : Nat → Prop} (h : RowX w v l P) {S : Nat → Prop} (hk : Keeps S w w') (hs : ∀ q, q < w.heap.size → P q → ¬ S q) (hp : ∀ q, q < w.heap.size → P q → P' q) : RowX w' v l P' := by
 obtain ⟨⟨ao, cap, rfl, hle, hr⟩, hb⟩ := h
 refine ⟨⟨ao, cap, rfl, hle, fun h0 => ?_⟩, fun k hk2 => ⟨Nat.lt_of_lt_of_le (hb k hk2).1 hk.size, hp k (hb k hk2).1 (hb k hk2).2⟩⟩
 obtain ⟨g, off, rfl, h2, h3⟩ := hr h0
 exact ⟨g, off, rfl, Nat.lt_of_lt_of_le h2 hk.size, fun j x hj => (hk.cell (p := ⟨g, off + j, none⟩) h2 (hs g (hb g rfl).1 (hb g rfl).2)).trans (h3 j x hj)⟩
def RelX (w : World) (qv : QV) (q : Qry) (P : Nat → Prop) : Prop := qv.1 = q.1 ∧ qv.2.1 = q.2.1 ∧ qv.2.2.1 = q.2.2.1 ∧ RowX w (whoV qv) q.2.2.2 P
/-- A row of queries that is read. -/
def QRX (w : World) (v : Value) (l : List Qry) (P : Nat → Prop) : Prop :=
 ∃ lv : List QV, lv.length = l.length ∧ RdX qE w v lv P ∧ ∀ (j : Nat) (q : Qry) (qv : QV), l[j]? = some q → lv[j]? = some qv → RelX w qv q P
theorem QRX.into {w w' : World} {v : Value} {l : List Qry} {P P' : Nat → Prop} (h : QRX w v l P) {S : Nat → Prop} (hk : Keeps S w w') (hs : ∀ q, q < w.heap.size → P q → ¬ S q) (hp : ∀ q, q < w.heap.size → P q → P' q) : QRX w' v l P' := by
 obtain ⟨lv, h1, h2, h3⟩ := h
 exact ⟨lv, h1, h2.into hk hs hp, fun j q qv hq hv => ⟨(h3 j q qv hq hv).1, (h3 j q qv hq hv).2.1, (h3 j q qv hq hv).2.2.1, (h3 j q qv hq hv).2.2.2.into hk hs hp⟩⟩
theorem QRX.keeps {w w' : World} {v : Value} {l : List Qry} {P : Nat → Prop} (h : QRX w v l P) {S : Nat → Prop} (hk : Keeps S w w') (hs : ∀ q, q < w.heap.size → P q → ¬ S q) : QRX w' v l P := h.into hk hs (fun _ _ p => p)
theorem QRow.rdX {lo : Nat} {w : World} {v : Value} {l : List Qry} {P : Nat → Prop} (h : QRow lo w v l) (hp : ∀ k, lo ≤ k → k < w.heap.size → P k) : QRX w v l P := by
 obtain ⟨lv, h1, h2, h3⟩ := h
 exact ⟨lv, h1, h2.rdX hp, fun j q qv hq hv => ⟨(h3 j q qv hq hv).1.1, (h3 j q qv hq hv).1.2.1, (h3 j q qv hq hv).1.2.2.1, (h3 j q qv hq hv).1.2.2.2.1, fun k hk => ⟨((h3 j q qv hq hv).1.2.2.2.2 k hk).2, hp k ((h3 j q qv hq hv).1.2.2.2.2 k hk).1 ((h3 j q qv hq hv).1.2.2.2.2 k hk).2⟩⟩⟩
/-- A policy's four rows, and where they lie. -/
def PolX (w : World) (v0 v1 v2 v3 : Value) (p : Pol) (P : Nat → Prop) : Prop := RdX stmE w v0 p.1 P ∧ RdX rolE w v1 p.2.1 P ∧ RdX rolE w v2 p.2.2.1 P ∧ QRX w v3 p.2.2.2 P
theorem PolX.into {w w' : World} {v0 v1 v2 v3 : Value} {p : Pol} {P P' : Nat → Prop} (h : PolX w v0 v1 v2 v3 p P) {S : Nat → Prop} (hk : Keeps S w w') (hs : ∀ q, q < w.heap.size → P q → ¬ S q) (hp : ∀ q, q < w.heap.size → P q → P' q) : PolX w' v0 v1 v2 v3 p P' :=
 ⟨h.1.into hk hs hp, h.2.1.into hk hs hp, h.2.2.1.into hk hs hp, h.2.2.2.into hk hs hp⟩
/-- What a call that makes a policy leaves. -/
def PolTo (W : World) (p : Pol) (P : Nat → Prop) (S : Nat → Prop) (e : Ending) (W' : World) : Prop := ∃ v0 v1 v2 v3, e = .returned (.agg #[v0, v1, v2, v3]) ∧ Hid (Keeps S W W' ∧ PolX W' v0 v1 v2 v3 p P)
end Go.Proofs.YtcdfpnlaklaafaaGreat
