/-
  How many bits a word has: the library's way walked.
-/
import Derived.Test.YtaabmkebbnkonaaDoorKit
import Derived.Test.YtaabmkebbnkonaaDoorProg
import Derived.Test.YtaabmkebbnkonaaDoorSetPlain
import Derived.WalkLawsBesides
import Derived.Laws.BitsAllLaws
import Derived.Lib.Hide
import Derived.Deep.QuietTactic
import Derived.BigQuiet
import Derived.Deep.LoopGhost
import Derived.Deep.DeepCutAuto
import Derived.Lib.TrailingZeros
import Derived.RegionTactic
import Derived.BigRegion
import Derived.Deep.OwnRows
set_option linter.unusedVariables false
set_option linter.unusedSimpArgs false
set_option linter.unnecessarySimpa false
namespace Go.Proofs.YtaabmkebbnkonaaDoor
open Go.RowKit Go.Deep SetPlain

theorem and_low (a : Nat) (ha : a < 9223372036854775808) : bits .and .i64 (a : Int) 127 = ((a &&& 127 : Nat) : Int) := by
  have e : ∀ n : Nat, n < 9223372036854775808 → (BitVec.ofInt 64 (n : Int)).toNat = n := fun n hn => by
    rw [BitVec.ofInt_natCast, BitVec.toNat_ofNat]
    exact Nat.mod_eq_of_lt (by omega)
  have hle : a &&& 127 ≤ 127 := Nat.and_le_right
  show IntKind.i64.wrap ((BitVec.ofInt 64 (a : Int) &&& BitVec.ofInt 64 ((127 : Nat) : Int)).toNat : Int) = _
  rw [BitVec.toNat_and, e a ha, e 127 (by decide), IntKind.wrap_i64]
  omega

end Go.Proofs.YtaabmkebbnkonaaDoor
/-
  More small laws of my own, over any program: an append that tells whether the row stayed or is new.
-/
set_option linter.unusedVariables false
set_option linter.unusedSimpArgs false
namespace Go.Proofs.YtaabmkebbnkonaaDoor
open Go.ChangeShapes Go.WideShapes Go.ChangeAt Go.RowKit Go.Deep

theorem ownsRow_base {w : World} {base base' e size : Nat} {v : Value} {n : Nat} {xs : List Value} (h : w.ownsRow base e size v n xs) (hb : base' ≤ base) : w.ownsRow base' e size v n xs := by
  obtain ⟨h1, h2 | ⟨g, cap, cur, hv, hg, r⟩⟩ := h
  · exact ⟨h1, .inl h2⟩
  · exact ⟨h1, .inr ⟨g, cap, cur, hv, by omega, r⟩⟩
theorem ownsRow_keeps' {w w' : World} {base e size : Nat} {v : Value} {n : Nat} {xs : List Value} {S : Nat → Prop} (h : w.ownsRow base e size v n xs) (hk : Keeps S w w') (hs : ∀ k, v.ownBlock = some k → ¬ S k) : w'.ownsRow base e size v n xs := by
  obtain ⟨h1, h2 | ⟨g, cap, cur, hv, hg, hh, r⟩⟩ := h
  · exact ⟨h1, .inl h2⟩
  · exact ⟨h1, .inr ⟨g, cap, cur, hv, hg, (hk.block g (lt_of_heap hh) (hs g (by rw [hv]; rfl))).trans hh, r⟩⟩
theorem own_lt {w : World} {base e size : Nat} {v : Value} {n : Nat} {xs : List Value} (h : w.ownsRow base e size v n xs) : ∀ k, v.ownBlock = some k → k < w.heap.size := by
  intro k hk
  obtain ⟨_, ⟨rfl, _⟩ | ⟨g, cap, cur, rfl, _, hh, _⟩⟩ := h
  · cases hk
  · simp only [Value.ownBlock, Option.some.injEq] at hk; subst hk; exact lt_of_heap hh
theorem own_type {w : World} {base e size : Nat} {v : Value} {n : Nat} {xs : List Value} (h : w.ownsRow base e size v n xs) {k : Nat} (hk : v.ownBlock = some k) {c : Array Value} {t : TypeId} {fr : Nat × Nat} (ht : w.heap[k]? = some (.cells c t fr)) : t = e := by
  obtain ⟨_, ⟨rfl, _⟩ | ⟨g, cap, cur, rfl, _, hh, _⟩⟩ := h
  · cases hk
  · simp only [Value.ownBlock, Option.some.injEq] at hk; subst hk
    rw [hh] at ht
    simp only [Option.some.injEq, Obj.cells.injEq] at ht
    exact ht.2.1.symm

/-- An owned row's value, and its cells. -/
theorem own_form {w : World} {base e size : Nat} {v : Value} {n : Nat} {xs : List Value} (h : w.ownsRow base e size v n xs) :
    ∃ ao cap, v = .slice ao n cap ∧ n ≤ cap ∧ cap ≤ maxLen ∧ (ao = none → n = 0 ∧ cap = 0) ∧ (∀ b, ao = some b → b.off = 0 ∧ b.spot = none ∧ b.block < w.heap.size ∧ base ≤ b.block ∧ ∀ (j : Nat) (u : Value), xs[j]? = some u → w.cell? ⟨b.block, j, none⟩ = some u) := by
  obtain ⟨hl, ⟨rfl, rfl⟩ | ⟨g, cap, cur, rfl, hg, hh, hle, hm, hs, ht⟩⟩ := h
  · exact ⟨none, 0, rfl, Nat.le_refl _, by unfold maxLen; omega, fun _ => ⟨rfl, rfl⟩, fun b hb => by cases hb⟩
  · refine ⟨_, cap, rfl, hle, hm, fun h => (by cases h), fun b hb => ?_⟩
    simp only [Option.some.injEq] at hb
    subst hb
    refine ⟨rfl, rfl, lt_of_heap hh, hg, fun j u hu => ?_⟩
    rw [cell_of_heap hh, ← hu, ← ht, List.getElem?_take_of_lt, Array.getElem?_toList]
    rcases Nat.lt_or_ge j (n * size) with h | h
    · exact h
    · rw [List.getElem?_eq_none (by omega)] at hu; cases hu

/-- AN APPEND TO A ROW OF THE PROGRAM's OWN, that says whose block it then is: the old one, or a new one. -/
theorem wpList_append_fp {P : Program} (w : World) {ops : Array Oper} {rest : List Oper} {o : Oper} {a : Act} {Q : Exit → Act → World → Prop} (hgd : o.guard = none) (s x : Operand) (t : TypeId)
    (ho : o.op = .call { callee := .builtin .append, args := #[s, x], argTypes := #[t, t] })
    (e : TypeId) (i : TypeInfo) (z : Value) (size bytes : Nat) (ht : P.underlying t = some (.slice e)) (hi : P.info? e = some i) (hz : i.zero = some z)
    (hsize : i.size = size) (hby : i.bytes = bytes) (hzs : z.cells.size = size) (hsz : 0 < size)
    (v : Value) (n : Nat) (xs : List Value) (hs : a.eval s = v) (hown : w.ownsRow 0 e size v n xs)
    (ad : Addr) (m c : Nat) (news : List Value) (hx : a.eval x = .slice (some ad) m c) (hl : news.length = m * size) (hnews : ∀ j u, news[j]? = some u → w.cell? (ad.add j) = some u) (h1 : ∀ u ∈ news, u.oneCell' = true)
    (hm : 0 < m) (h63 : n + m ≤ maxLen) (hbytes : (n + m) * bytes ≤ 140737488355328)
    (h : ∀ v' w', w'.ownsRow 0 e size v' (n + m) (xs ++ news) → w.grownBy w' v.ownBlock → (∀ k, v'.ownBlock = some k → v.ownBlock = some k ∨ w.heap.size ≤ k) → wpList P ops Q rest (a.put o.dst v') w') : wpList P ops Q (o :: rest) a w := by
  have hgrow : ∀ (ao : Option Addr) (cap : Nat), v = .slice ao n cap → (ao = none → n = 0 ∧ cap = 0) → (∀ b, ao = some b → b.off = 0 ∧ b.spot = none ∧ b.block < w.heap.size ∧ 0 ≤ b.block ∧ ∀ (j : Nat) (u : Value), xs[j]? = some u → w.cell? ⟨b.block, j, none⟩ = some u) → cap < n + m → wpList P ops Q (o :: rest) a w := by
    intro ao cap hv hnone hold hfull
    refine wpList_append_grows w hgd s x t ho e i z size bytes ht hi hz hsize hby hzs hsz ao n cap xs (hs.trans hv) hnone hown.1 (fun b hb j u hu => ?_) ad m c news hx hl hnews h1 hfull h63 hbytes (fun v' w' h2 h3 => ?_)
    · obtain ⟨h4, h5, _, _, h6⟩ := hold b hb
      obtain ⟨bb, off, sp⟩ := b
      simp only at h4 h5
      subst h4; subst h5
      rw [add_plain, Nat.zero_add]
      exact h6 j u hu
    · exact h v' w' (ownsRow_base h2 (Nat.zero_le _)) ⟨h3.os, h3.tape, h3.output, h3.size, fun k hk _ => h3.block k hk (by simp)⟩ (fun k hk => .inr (own_block h2 k hk))
  obtain ⟨ao, cap, hv, hle, hmx, hnone, hold⟩ := own_form hown
  by_cases hfit : n + m ≤ cap
  · cases ao with
    | none => have := hnone rfl; omega
    | some b =>
      obtain ⟨h4, h5, _, _, _⟩ := hold b rfl
      obtain ⟨bb, off, sp⟩ := b
      simp only at h4 h5
      subst h4; subst h5
      subst hv
      refine wpList_append_fits w hgd s x t ho 0 e i size ht hi hsize bb n cap xs hs hown ad m c news hx hl hnews h1 hfit (fun w' h2 h3 => ?_)
      exact h _ w' h2 h3 (fun k hk => .inl hk)
  · exact hgrow ao cap hv hnone hold (by omega)
/-- The same, of the run. -/
theorem run_append_fp {P : Program} (w : World) (t ty e : TypeId) (i : TypeInfo) (z : Value) (size bytes : Nat) (ht : P.underlying t = some (.slice e)) (hi : P.info? e = some i) (hz : i.zero = some z)
    (hsize : i.size = size) (hby : i.bytes = bytes) (hzs : z.cells.size = size) (hsz : 0 < size)
    (v : Value) (n : Nat) (xs : List Value) (hown : w.ownsRow 0 e size v n xs)
    (ad : Addr) (m c : Nat) (news : List Value) (hl : news.length = m * size) (hnews : ∀ j u, news[j]? = some u → w.cell? (ad.add j) = some u) (h1 : ∀ u ∈ news, u.oneCell' = true)
    (hm : 0 < m) (h63 : n + m ≤ maxLen) (hbytes : (n + m) * bytes ≤ 140737488355328) :
    ∃ ao' cap' w', (Builtin.append_ #[t, t] ty #[v, .slice (some ad) m c]).run P w = .ok (.slice ao' (n + m) cap') w' ∧ w'.ownsRow 0 e size (.slice ao' (n + m) cap') (n + m) (xs ++ news) ∧ w.grownBy w' v.ownBlock ∧
      (∀ k, (Value.slice ao' (n + m) cap').ownBlock = some k → v.ownBlock = some k ∨ w.heap.size ≤ k) := by
  have fin : ∀ v' w', (Builtin.append_ #[t, t] ty #[v, .slice (some ad) m c]).run P w = .ok v' w' → w'.ownsRow w.heap.size e size v' (n + m) (xs ++ news) → w.grownBy w' none → ∃ ao' cap' w', (Builtin.append_ #[t, t] ty #[v, .slice (some ad) m c]).run P w = .ok (.slice ao' (n + m) cap') w' ∧ w'.ownsRow 0 e size (.slice ao' (n + m) cap') (n + m) (xs ++ news) ∧ w.grownBy w' v.ownBlock ∧
      (∀ k, (Value.slice ao' (n + m) cap').ownBlock = some k → v.ownBlock = some k ∨ w.heap.size ≤ k) := by
    intro v' w' hr h2 h3
    obtain ⟨ao', cap', rfl, _⟩ := own_form h2
    exact ⟨ao', cap', w', hr, ownsRow_base h2 (Nat.zero_le _), ⟨h3.os, h3.tape, h3.output, h3.size, fun k hk _ => h3.block k hk (by simp)⟩, fun k hk => .inr (own_block h2 k hk)⟩
  obtain ⟨ao, cap, rfl, hle, hmx, hnone, hold⟩ := own_form hown
  cases ao with
  | none =>
    obtain ⟨rfl, rfl⟩ := hnone rfl
    obtain rfl : xs = [] := List.eq_nil_of_length_eq_zero (by simpa using hown.1)
    obtain ⟨v', w', hr, r1, r2, _⟩ := run_append_own (P := P) w w.heap.size t ty e i z size bytes ht hi hz hsize hby hzs hsz (.slice none 0 0) 0 [] (World.ownsRow_nil w _ e size) ad m c news hl hnews h1 h63 hbytes (Nat.le_refl _)
    exact fin v' w' hr r1 r2
  | some b =>
    obtain ⟨h4, h5, _, _, h6⟩ := hold b rfl
    obtain ⟨bb, off, sp⟩ := b
    simp only at h4 h5
    subst h4; subst h5
    by_cases hfit : n + m ≤ cap
    · obtain ⟨w', hr, r1, r2⟩ := run_append_fits (P := P) w 0 t ty e i size ht hi hsize bb n cap xs hown ad m c news hl hnews h1 hfit
      exact ⟨_, cap, w', hr, r1, r2, fun k hk => .inl hk⟩
    · obtain ⟨v', w', hr, r1, r2⟩ := run_append_arg_grows (P := P) w t ty e i z size bytes ht hi hz hsize hby hzs hsz ⟨bb, 0, none⟩ n cap xs hown.1 (fun j u hu => by rw [add_plain, Nat.zero_add]; exact h6 j u hu) ad m c news hl hnews (by omega) h63 hbytes
      exact fin v' w' hr r1 r2

/-- .. and of one step of a region that draws its order. -/
theorem step_append_fp {P : Program} {ops : Array Oper} {o : Oper} {a : Act} {w : World} {K : Act → World → Prop} {Q : Exit → Act → World → Prop} {E : Prop}
    (hg : o.guard = none) (s x : Operand) (t : TypeId) (hop : o.op = Op.call { callee := Callee.builtin Builtin.append, args := #[s, x], argTypes := #[t, t] })
    (e : TypeId) (i : TypeInfo) (z : Value) (size bytes : Nat) (ht : P.underlying t = some (.slice e)) (hi : P.info? e = some i) (hz : i.zero = some z)
    (hsize : i.size = size) (hby : i.bytes = bytes) (hzs : z.cells.size = size) (hsz : 0 < size)
    (v : Value) (n : Nat) (xs : List Value) (hs : a.eval s = v) (hown : w.ownsRow 0 e size v n xs)
    (ad : Addr) (m c : Nat) (news : List Value) (hx : a.eval x = .slice (some ad) m c) (hl : news.length = m * size) (hnews : ∀ j u, news[j]? = some u → w.cell? (ad.add j) = some u) (h1 : ∀ u ∈ news, u.oneCell' = true)
    (hm : 0 < m) (h63 : n + m ≤ maxLen) (hbytes : (n + m) * bytes ≤ 140737488355328)
    (hK : ∀ ao' cap' w', w'.ownsRow 0 e size (.slice ao' (n + m) cap') (n + m) (xs ++ news) → w.grownBy w' v.ownBlock → (∀ k, (Value.slice ao' (n + m) cap').ownBlock = some k → v.ownBlock = some k ∨ w.heap.size ≤ k) → K (a.put o.dst (.slice ao' (n + m) cap')) w') :
    if Region.wanted o (yielded ops a.tmps) = true then Oper.wp P o a w K Q else E := by
  have hw : Region.wanted o (yielded ops a.tmps) = true := by simp [Region.wanted, hg]
  rw [if_pos hw]
  obtain ⟨ao', cap', w', hr, r1, r2, r3⟩ := run_append_fp (P := P) w t o.type e i z size bytes ht hi hz hsize hby hzs hsz v n xs hown ad m c news hl hnews h1 hm h63 hbytes
  unfold Oper.wp
  simp [execOp, hop, resolve, invoke, builtin, hs, hx, hr, Result.andThen]
  exact hK ao' cap' w' r1 r2 r3
end Go.Proofs.YtaabmkebbnkonaaDoor
/-
  A family of sets in memory; what is asked of it.
-/
set_option linter.unusedVariables false
set_option linter.unusedSimpArgs false
set_option linter.unnecessarySimpa false
namespace Go.Proofs.YtaabmkebbnkonaaDoor
open Go.ChangeShapes Go.WideShapes Go.ChangeAt Go.RowKit Go.Deep SetPlain

/-- A row of values by their places. -/
def fnRow (F : Nat → Value) (n : Nat) : Array Value := ((List.range n).map F).toArray
theorem fnRow_get (F : Nat → Value) (n j : Nat) (h : j < n) : (fnRow F n)[j]? = some (F j) := by simp [fnRow, h]
theorem fnRow_size (F : Nat → Value) (n : Nat) : (fnRow F n).size = n := by simp [fnRow]
theorem fnRow_congr {F G : Nat → Value} {n : Nat} (h : ∀ j, j < n → F j = G j) : fnRow F n = fnRow G n := by
  unfold fnRow
  congr 1
  exact List.map_congr_left fun j hj => h j (List.mem_range.1 hj)
theorem fnRow_set (F : Nat → Value) (n j : Nat) (v : Value) (h : j < n) : (fnRow F n).setIfInBounds j v = fnRow (fun i => if i = j then v else F i) n := by
  apply Array.ext_getElem?
  intro i
  rw [Array.getElem?_setIfInBounds]
  by_cases hij : j = i
  · subst hij
    rw [if_pos rfl, fnRow_get _ _ _ h]
    simp [fnRow, h]
  · rw [if_neg hij]
    rcases Nat.lt_or_ge i n with h1 | h1
    · rw [fnRow_get _ _ _ h1, fnRow_get _ _ _ h1, if_neg (fun e => hij e.symm)]
    · rw [Array.getElem?_eq_none (by simpa [fnRow] using h1), Array.getElem?_eq_none (by simpa [fnRow] using h1)]
theorem madeRow (z : Value) (n : Nat) : madeCells #[z] n = fnRow (fun _ => z) n := by
  apply Array.ext_getElem?
  intro i
  rcases Nat.lt_or_ge i n with h | h
  · rw [fnRow_get _ _ _ h]
    have := madeCells_get #[z] n i 0 z h rfl
    simpa using this
  · rw [Array.getElem?_eq_none (by simpa [size_madeCells] using h), Array.getElem?_eq_none (by simpa [fnRow] using h)]

def famObj (R C bw tot : Nat) : Obj := .cells #[.int .i64 R, .int .i64 C, .slice (some ⟨bw, 0, none⟩) R R, .int .i64 tot] 75 (0, 0)
def wordRow (p : Nat → Bool) (K : Nat) : Array Value := fnRow (fun k => .int .u64 (wordOf p k)) K
def rowSl (rb : Nat → Nat) (K : Nat) (i : Nat) : Value := .slice (some ⟨rb i, 0, none⟩) K K

/-- A family at b: who is in which set. -/
structure FamMem (w : World) (b bw : Nat) (rb : Nat → Nat) (R C : Nat) (In : Nat → Nat → Bool) (tot : Nat) : Prop where
  obj : w.heap[b]? = some (famObj R C bw tot)
  rows : ∃ F, w.heap[bw]? = some (.cells (fnRow F R) 76 (0, 0)) ∧ ∀ i, i < R → ∃ cp, F i = .slice (some ⟨rb i, 0, none⟩) (wordsOf C) cp ∧ wordsOf C ≤ cp
  row : ∀ i, i < R → ∃ cur, w.heap[rb i]? = some (.cells cur 91 (0, 0)) ∧ ∀ k, k < wordsOf C → cur[k]? = some (.int .u64 (wordOf (In i) k))
  inj : ∀ i j, i < R → j < R → rb i = rb j → i = j
  out : ∀ i c, C ≤ c → In i c = false
  hR : R ≤ 5000
  hC : C ≤ 1000
def famFp (b bw : Nat) (rb : Nat → Nat) (R : Nat) : Nat → Prop := fun k => k = b ∨ k = bw ∨ ∃ i, i < R ∧ k = rb i

/-- A set by its number; none of one that there isn't. -/
def rowP (R : Nat) (In : Nat → Nat → Bool) (i : Int) : Nat → Bool := if 0 ≤ i ∧ i < R then In i.toNat else fun _ => false
def rowV (w : World) (bw R : Nat) (i : Int) : Value := if 0 ≤ i ∧ i < R then (w.cell? ⟨bw, i.toNat, none⟩).getD (.slice none 0 0) else .slice none 0 0
def hasB (R C : Nat) (In : Nat → Nat → Bool) (i c : Int) : Bool := decide (0 ≤ c ∧ c < C) && rowP R In i c.toNat

theorem words_eql (W : World) (a : Option Addr) (n c : Nat) : (binOp .eql 76 (.slice a n c) (.slice none 0 0)).run Tryd.prog W = .ok (.bool a.isNone) W := Lib.run_eql_slice_nil W _ 91 a n c 0 0 Tryd.underlying76
theorem shr_bit (X v : Nat) (hX : X < 18446744073709551616) : (bits BinOp.and IntKind.u64 ((X : Int) / 2 ^ v) 1 == 1) = X.testBit v := by
  have e1 : ((X : Int) / 2 ^ v) = ((X / 2 ^ v : Nat) : Int) := by simp
  have hle : X / 2 ^ v < 18446744073709551616 := Nat.lt_of_le_of_lt (Nat.div_le_self _ _) hX
  have e2 := u64_and_nat (X / 2 ^ v) 1 hle (by decide)
  rw [e1]
  rw [show (1 : Int) = ((1 : Nat) : Int) from rfl, e2, Nat.and_one_is_mod, Nat.testBit_eq_decide_div_mod_eq]
  rw [Bool.eq_iff_iff]
  simp
  omega

section
variable {w : World} {b bw : Nat} {rb : Nat → Nat} {R C : Nat} {In : Nat → Nat → Bool} {tot : Nat}
theorem FamMem.keeps {w' : World} (h : FamMem w b bw rb R C In tot) {S : Nat → Prop} (hk : Keeps S w w') (hs : ∀ k, famFp b bw rb R k → ¬ S k) : FamMem w' b bw rb R C In tot := by
  obtain ⟨F, h1, h2⟩ := h.rows
  refine ⟨(hk.block b (lt_of_heap h.obj) (hs b (.inl rfl))).trans h.obj, ⟨F, (hk.block bw (lt_of_heap h1) (hs bw (.inr (.inl rfl)))).trans h1, h2⟩, fun i hi => ?_, h.inj, h.out, h.hR, h.hC⟩
  obtain ⟨cur, h3, h4⟩ := h.row i hi
  exact ⟨cur, (hk.block (rb i) (lt_of_heap h3) (hs _ (.inr (.inr ⟨i, hi, rfl⟩)))).trans h3, h4⟩
theorem FamMem.lt (h : FamMem w b bw rb R C In tot) : ∀ k, famFp b bw rb R k → k < w.heap.size := by
  intro k hk
  rcases hk with rfl | rfl | ⟨i, hi, rfl⟩
  · exact lt_of_heap h.obj
  · obtain ⟨F, h1, _⟩ := h.rows
    exact lt_of_heap h1
  · obtain ⟨cur, h3, _⟩ := h.row i hi
    exact lt_of_heap h3
theorem FamMem.ne (h : FamMem w b bw rb R C In tot) : b ≠ bw ∧ ∀ i, i < R → rb i ≠ b ∧ rb i ≠ bw := by
  obtain ⟨F, hF, _⟩ := h.rows
  refine ⟨fun e => ?_, fun i hi => ?_⟩
  · have h1 := h.obj
    rw [e, hF] at h1
    simp [famObj] at h1
  · obtain ⟨cur, h3, _⟩ := h.row i hi
    refine ⟨fun e => ?_, fun e => ?_⟩
    · have h2 := h.obj
      rw [e, h2] at h3
      simp [famObj] at h3
    · rw [e, hF] at h3
      simp at h3
theorem FamMem.cellR (h : FamMem w b bw rb R C In tot) {i : Nat} (hi : i < R) : ∃ cp, w.cell? ⟨bw, i, none⟩ = some (.slice (some ⟨rb i, 0, none⟩) (wordsOf C) cp) ∧ wordsOf C ≤ cp := by
  obtain ⟨F, h1, h2⟩ := h.rows
  obtain ⟨cp, h3, h4⟩ := h2 i hi
  exact ⟨cp, by rw [cell_of_heap h1, ← h3]; exact fnRow_get _ _ _ hi, h4⟩
theorem FamMem.word (h : FamMem w b bw rb R C In tot) {i k : Nat} (hi : i < R) (hk : k < wordsOf C) : w.cell? ⟨rb i, k, none⟩ = some (.int .u64 (wordOf (In i) k)) ∧ w.frozen? ⟨rb i, k, none⟩ = false := by
  obtain ⟨cur, h3, h4⟩ := h.row i hi
  exact ⟨by rw [cell_of_heap h3]; exact h4 k hk, free_of_heap h3 _⟩

/-- What a row's value reads as. -/
def RowAt (w : World) (v : Value) (K : Nat) (p : Nat → Bool) : Prop :=
  (v = .slice none 0 0 ∧ ∀ j, p j = false) ∨ ∃ g cp, v = .slice (some ⟨g, 0, none⟩) K cp ∧ K ≤ cp ∧ g < w.heap.size ∧ ∀ k, k < K → w.cell? ⟨g, k, none⟩ = some (.int .u64 (wordOf p k))
theorem FamMem.rowIn (h : FamMem w b bw rb R C In tot) {i : Int} (h0 : 0 ≤ i) (h1 : i < R) : ∃ cp, rowV w bw R i = .slice (some ⟨rb i.toNat, 0, none⟩) (wordsOf C) cp ∧ wordsOf C ≤ cp := by
  obtain ⟨cp, hc, hle⟩ := h.cellR (i := i.toNat) (by omega)
  refine ⟨cp, ?_, hle⟩
  unfold rowV
  rw [if_pos ⟨h0, h1⟩, hc]
  rfl
theorem rowNo {w : World} {bw R : Nat} {i : Int} (h : ¬ (0 ≤ i ∧ i < R)) : rowV w bw R i = .slice none 0 0 := by unfold rowV; rw [if_neg h]
theorem FamMem.at_ (h : FamMem w b bw rb R C In tot) (i : Int) : RowAt w (rowV w bw R i) (wordsOf C) (rowP R In i) := by
  by_cases hi : 0 ≤ i ∧ i < R
  · obtain ⟨cp, hv, hle⟩ := h.rowIn hi.1 hi.2
    unfold rowP
    rw [if_pos hi, hv]
    obtain ⟨cur, h3, h4⟩ := h.row i.toNat (by omega)
    exact .inr ⟨rb i.toNat, cp, rfl, hle, lt_of_heap h3, fun k hk => (h.word (by omega) hk).1⟩
  · rw [rowNo hi]
    unfold rowP
    rw [if_neg hi]
    exact .inl ⟨rfl, fun _ => rfl⟩
theorem FamMem.rowOut (h : FamMem w b bw rb R C In tot) (i : Int) : ∀ c, C ≤ c → rowP R In i c = false := by
  intro c hc
  unfold rowP
  split
  · exact h.out _ _ hc
  · rfl

set_option maxRecDepth 10000 in
theorem frows_spec (h : FamMem w b bw rb R C In tot) : Calls Tryd.prog 30 #[.pointer (some ⟨b, 0, none⟩)] w fun e w' => e = .returned (.int .i64 R) ∧ w = w' := by
  have c0 : w.cell? ⟨b, 0, none⟩ = some (.int .i64 R) := by rw [cell_of_heap h.obj]; rfl
  go_enter Tryd.func30, Tryd.ntmps30
  go_wp2
  go_ret
  exact ⟨rfl, rfl⟩
set_option maxRecDepth 10000 in
theorem ftotal_spec (h : FamMem w b bw rb R C In tot) : Calls Tryd.prog 35 #[.pointer (some ⟨b, 0, none⟩)] w fun e w' => e = .returned (.int .i64 tot) ∧ w = w' := by
  have c0 : w.cell? ⟨b, 3, none⟩ = some (.int .i64 tot) := by rw [cell_of_heap h.obj]; rfl
  go_enter Tryd.func35, Tryd.ntmps35
  go_wp2
  go_ret
  exact ⟨rfl, rfl⟩
set_option maxRecDepth 10000 in
set_option maxHeartbeats 800000 in
theorem frow_spec (h : FamMem w b bw rb R C In tot) (i : Int) : Calls Tryd.prog 46 #[.pointer (some ⟨b, 0, none⟩), .int .i64 i] w fun e w' => e = .returned (rowV w bw R i) ∧ w = w' := by
  have HR := Lib.hid (frows_spec h)
  have hR := h.hR
  rcases Int.lt_or_le i 0 with h0 | h0
  · rw [rowNo (by omega)]
    clear h
    go_enter Tryd.func46, Tryd.ntmps46
    go_wp2
    go_ret
    exact ⟨rfl, rfl⟩
  · rcases Int.lt_or_le i R with h1 | h1
    · obtain ⟨k, rfl⟩ : ∃ k : Nat, i = k := ⟨i.toNat, by omega⟩
      obtain ⟨cp, cr, hcp⟩ := h.cellR (i := k) (by omega)
      rw [show rowV w bw R (k : Int) = .slice (some ⟨rb k, 0, none⟩) (wordsOf C) cp from by unfold rowV; rw [if_pos ⟨h0, h1⟩, show ((k : Int)).toNat = k from rfl, cr]; rfl]
      have c2 : w.cell? ⟨b, 2, none⟩ = some (.slice (some ⟨bw, 0, none⟩) R R) := by rw [cell_of_heap h.obj]; rfl
      clear h
      go_enter Tryd.func46, Tryd.ntmps46
      go_wp2_with (go_at_call 30; refine HR.out.mono ?_; rintro e w' ⟨rfl, rfl⟩)
      go_ret
      exact ⟨rfl, rfl⟩
    · rw [rowNo (by omega)]
      clear h
      go_enter Tryd.func46, Tryd.ntmps46
      go_wp2_with (go_at_call 30; refine HR.out.mono ?_; rintro e w' ⟨rfl, rfl⟩)
      go_ret
      exact ⟨rfl, rfl⟩

set_option maxRecDepth 10000 in
set_option maxHeartbeats 800000 in
theorem fhas_spec (h : FamMem w b bw rb R C In tot) (i c : Int) (hc0 : -9223372036854775808 ≤ c) (hc1 : c ≤ 9223372036854775807) : Calls Tryd.prog 32 #[.pointer (some ⟨b, 0, none⟩), .int .i64 i, .int .i64 c] w fun e w' => e = .returned (.bool (hasB R C In i c)) ∧ w = w' := by
  have HR := Lib.hid (frow_spec h i)
  have hat := h.at_ i
  have hC := h.hC
  have c1 : w.cell? ⟨b, 1, none⟩ = some (.int .i64 C) := by rw [cell_of_heap h.obj]; rfl
  unfold hasB
  generalize rowV w bw R i = v at HR hat
  generalize rowP R In i = p at hat ⊢
  clear h
  rcases hat with ⟨rfl, hp⟩ | ⟨g, cp, rfl, hcp, hg, hcell⟩
  · rw [hp, Bool.and_false]
    go_enter Tryd.func32, Tryd.ntmps32
    go_wp2_with (go_at_call 46; refine HR.out.mono ?_; rintro e w' ⟨rfl, rfl⟩)
    go_ret
    exact ⟨rfl, rfl⟩
  · have HC := Lib.hid hcell
    clear hcell
    rcases Int.lt_or_le c 0 with h0 | h0
    · rw [show decide (0 ≤ c ∧ c < (C : Int)) = false from by simp; omega, Bool.false_and]
      go_enter Tryd.func32, Tryd.ntmps32
      go_wp2_with (go_at_call 46; refine HR.out.mono ?_; rintro e w' ⟨rfl, rfl⟩)
      go_ret
      exact ⟨rfl, rfl⟩
    · rcases Int.lt_or_le c C with h1 | h1
      · rw [show decide (0 ≤ c ∧ c < (C : Int)) = true from by simp; omega, Bool.true_and]
        obtain ⟨m, rfl⟩ : ∃ m : Nat, c = m := ⟨c.toNat, by omega⟩
        have hK := wordsOf_lt C m (by omega)
        have hm := wordOf_bit p m
        have hl := wordOf_lt p (m / 64)
        have hb := shr_bit (wordOf p (m / 64)) (m % 64) hl
        rw [hm] at hb
        have cw := HC.out (m / 64) hK
        obtain ⟨q, hq⟩ : ∃ q, q = m / 64 := ⟨_, rfl⟩
        obtain ⟨j, hj⟩ : ∃ j, j = m % 64 := ⟨_, rfl⟩
        rw [← hq] at hK hb cw hl
        rw [← hj] at hb
        generalize wordOf p q = X at cw hb hl
        rw [show ((m : Int)).toNat = m from rfl]
        rw [← hb]
        have e1 : (m : Int) / 64 = (q : Int) := by omega
        have e2 : (m : Int) % 64 = (j : Int) := by omega
        have hKI : (q : Int) < (wordsOf C : Int) := by omega
        have hj64 : (j : Int) < 64 := by omega
        clear hm hb hq hj HC hl
        go_enter Tryd.func32, Tryd.ntmps32
        go_wp2_with (go_at_call 46; refine HR.out.mono ?_; rintro e w' ⟨rfl, rfl⟩)
        go_ret
        exact ⟨rfl, rfl⟩
      · rw [show decide (0 ≤ c ∧ c < (C : Int)) = false from by simp; omega, Bool.false_and]
        go_enter Tryd.func32, Tryd.ntmps32
        go_wp2_with (go_at_call 46; refine HR.out.mono ?_; rintro e w' ⟨rfl, rfl⟩)
        go_ret
        exact ⟨rfl, rfl⟩
end
end Go.Proofs.YtaabmkebbnkonaaDoor
/-
  The numbers of a set, rising; a word's bits taken off one by one. No program in sight.
-/
set_option linter.unusedVariables false
set_option linter.unusedSimpArgs false
set_option linter.unnecessarySimpa false
namespace Go.Proofs.YtaabmkebbnkonaaDoor.SetPlain

/-- The numbers below n that are in, rising. -/
def listTo (p : Nat → Bool) : Nat → List Nat
  | 0 => []
  | n + 1 => if p n then listTo p n ++ [n] else listTo p n
theorem listTo_none (p : Nat → Bool) (a : Nat) : ∀ d, (∀ j, j < d → p (a + j) = false) → listTo p (a + d) = listTo p a
  | 0, _ => rfl
  | d + 1, h => by
    rw [← Nat.add_assoc]
    show (if p (a + d) = true then _ else listTo p (a + d)) = _
    rw [if_neg (by rw [h d (by omega)]; simp)]
    exact listTo_none p a d (fun j hj => h j (by omega))
theorem listTo_len (p : Nat → Bool) : ∀ n, (listTo p n).length = cnt p n
  | 0 => rfl
  | n + 1 => by
    unfold listTo cnt
    split
    · rw [List.length_append, listTo_len p n]; rfl
    · rw [listTo_len p n]; rfl
theorem listTo_lt (p : Nat → Bool) : ∀ n, ∀ x ∈ listTo p n, x < n ∧ p x = true
  | 0, x, h => by cases h
  | n + 1, x, h => by
    unfold listTo at h
    split at h
    · rename_i hp
      rw [List.mem_append, List.mem_singleton] at h
      rcases h with h | rfl
      · have := listTo_lt p n x h; exact ⟨by omega, this.2⟩
      · exact ⟨by omega, hp⟩
    · have := listTo_lt p n x h; exact ⟨by omega, this.2⟩
theorem listTo_congr {p q : Nat → Bool} : ∀ n, (∀ j, j < n → p j = q j) → listTo p n = listTo q n
  | 0, _ => rfl
  | n + 1, h => by unfold listTo; rw [listTo_congr n (fun j hj => h j (by omega)), h n (by omega)]

/-- A word's lowest bit, and the word without it. -/
theorem low_bit (w : Nat) (h0 : w ≠ 0) (hw : w < 18446744073709551616) :
    Lib.ctz 64 w < 64 ∧ w.testBit (Lib.ctz 64 w) = true ∧ (∀ j, j < Lib.ctz 64 w → w.testBit j = false) ∧ (∀ j, (w &&& (w - 1)).testBit j = (decide (Lib.ctz 64 w < j) && w.testBit j)) := by
  obtain ⟨q, hq, hm⟩ := Lib.ctzFrom_spec 64 w (by omega) hw
  have e : Lib.ctz 64 w = Lib.ctzFrom 64 w := by unfold Lib.ctz; rw [if_neg h0]
  rw [e]
  generalize Lib.ctzFrom 64 w = m at hq hm
  have hp : 0 < 2 ^ m := Nat.two_pow_pos m
  have e1 : w = 0 + 2 ^ m * (1 + 2 ^ 1 * q) := by rw [hq]; simp; rw [Nat.add_comm]
  have e2 : w - 1 = (2 ^ m - 1) + 2 ^ m * (0 + 2 ^ 1 * q) := by
    rw [hq, Nat.mul_add]; simp
    omega
  have e3 : w &&& (w - 1) = 2 ^ (m + 1) * q := by
    rw [e2]
    conv => lhs; lhs; rw [e1]
    rw [and_parts m _ _ _ _ hp (by omega), and_parts 1 _ _ _ _ (by decide) (by decide), Nat.and_self]
    simp [Nat.pow_succ, Nat.mul_assoc]
  have hb : ∀ j, w.testBit j = (decide (m ≤ j) && (2 * q + 1).testBit (j - m)) := fun j => by rw [hq, Nat.testBit_two_pow_mul]
  refine ⟨hm, ?_, fun j hj => ?_, fun j => ?_⟩
  · rw [hb, Nat.sub_self]
    simp
  · rw [hb]
    have : ¬ m ≤ j := by omega
    simp [this]
  · rw [e3, Nat.testBit_two_pow_mul, hb]
    by_cases h1 : m < j
    · have h2 : m + 1 ≤ j := h1
      have h3 : m ≤ j := by omega
      obtain ⟨d, rfl⟩ : ∃ d, j = m + 1 + d := ⟨j - (m + 1), by omega⟩
      rw [show m + 1 + d - m = d + 1 from by omega, show m + 1 + d - (m + 1) = d from by omega, Nat.testBit_succ, show (2 * q + 1) / 2 = q from by omega]
      simp [h1, h2, h3]
    · have h2 : ¬ m + 1 ≤ j := by omega
      simp [h1, h2]

/-- What of a word is still to come. -/
def WLeft (p : Nat → Bool) (k t X : Nat) : Prop := X < 18446744073709551616 ∧ t ≤ 64 ∧ ∀ j, X.testBit j = (decide (t ≤ j) && (wordOf p k).testBit j)
theorem WLeft.start (p : Nat → Bool) (k : Nat) : WLeft p k 0 (wordOf p k) := ⟨wordOf_lt p k, by omega, fun j => by simp⟩
theorem WLeft.done {p : Nat → Bool} {k t : Nat} (h : WLeft p k t 0) : listTo p (64 * k + t) = listTo p (64 * (k + 1)) := by
  obtain ⟨_, ht, hb⟩ := h
  rw [show 64 * (k + 1) = 64 * k + t + (64 - t) from by omega]
  refine (listTo_none p (64 * k + t) (64 - t) (fun j hj => ?_)).symm
  have := hb (t + j)
  rw [Nat.zero_testBit, wordOf_test] at this
  have h1 : t + j < 64 := by omega
  simp [h1] at this
  rw [Nat.add_assoc]; exact this
theorem WLeft.next {p : Nat → Bool} {k t X : Nat} (h : WLeft p k t X) (h0 : X ≠ 0) : WLeft p k (Lib.ctz 64 X + 1) (X &&& (X - 1)) ∧ listTo p (64 * k + (Lib.ctz 64 X + 1)) = listTo p (64 * k + t) ++ [64 * k + Lib.ctz 64 X] ∧ t ≤ Lib.ctz 64 X ∧ Lib.ctz 64 X < 64 := by
  obtain ⟨hX, ht, hb⟩ := h
  obtain ⟨h1, h2, h3, h4⟩ := low_bit X h0 hX
  generalize Lib.ctz 64 X = m at h1 h2 h3 h4
  have hm := hb m
  rw [h2] at hm
  have htm : t ≤ m := by
    rcases Nat.lt_or_ge m t with h | h
    · have : ¬ t ≤ m := by omega
      simp [this] at hm
    · exact h
  have hpm : p (64 * k + m) = true := by
    rw [wordOf_test] at hm
    simpa [htm, h1] using hm.symm
  refine ⟨⟨Nat.lt_of_le_of_lt Nat.and_le_left hX, by omega, fun j => ?_⟩, ?_, htm, h1⟩
  · rw [h4, hb]
    by_cases hj : m < j
    · have h5 : t ≤ j := by omega
      have h6 : m + 1 ≤ j := hj
      simp [hj, h5, h6]
    · have h6 : ¬ m + 1 ≤ j := by omega
      simp [hj, h6]
  · rw [show 64 * k + (m + 1) = (64 * k + m) + 1 from by omega]
    show (if p (64 * k + m) = true then _ else _) = _
    rw [if_pos hpm]
    have : listTo p (64 * k + m) = listTo p (64 * k + t) := by
      rw [show 64 * k + m = 64 * k + t + (m - t) from by omega]
      refine listTo_none p (64 * k + t) (m - t) (fun j hj => ?_)
      have h5 := hb (t + j)
      rw [h3 (t + j) (by omega), wordOf_test] at h5
      have h6 : t + j < 64 := by omega
      simp [h6] at h5
      rw [Nat.add_assoc]; exact h5
    rw [this]
end Go.Proofs.YtaabmkebbnkonaaDoor.SetPlain
/-
  Add of a family of sets.
-/
set_option linter.unusedVariables false
set_option linter.unusedSimpArgs false
set_option linter.unnecessarySimpa false
namespace Go.Proofs.YtaabmkebbnkonaaDoor
open Go.ChangeShapes Go.WideShapes Go.ChangeAt Go.RowKit Go.Deep SetPlain

def updIn (In : Nat → Nat → Bool) (i c : Nat) : Nat → Nat → Bool := fun a => if a = i then upd (In a) c else In a
def addB (R C : Nat) (In : Nat → Nat → Bool) (i c : Int) : Bool := decide (0 ≤ i ∧ i < R ∧ 0 ≤ c ∧ c < C) && !hasB R C In i c
def addIn (R C : Nat) (In : Nat → Nat → Bool) (i c : Int) : Nat → Nat → Bool := if addB R C In i c = true then updIn In i.toNat c.toNat else In
def addTot (R C : Nat) (In : Nat → Nat → Bool) (i c : Int) (tot : Nat) : Nat := if addB R C In i c = true then tot + 1 else tot

section
variable {w : World} {b bw : Nat} {rb : Nat → Nat} {R C : Nat} {In : Nat → Nat → Bool} {tot : Nat}
theorem FamMem.putRow (h : FamMem w b bw rb R C In tot) (i c : Nat) (hi : i < R) (hc : c < C) : FamMem (w.setCell ⟨rb i, c / 64, none⟩ (.int .u64 (wordOf (upd (In i) c) (c / 64) : Nat))) b bw rb R C (updIn In i c) tot := by
  have hne := h.ne
  have kk := Keeps.setCell (S := fun k => k = rb i) (Keeps.refl _ w) (p := ⟨rb i, c / 64, none⟩) (fun _ => rfl) (.int .u64 (wordOf (upd (In i) c) (c / 64) : Nat))
  obtain ⟨F, hF, hF2⟩ := h.rows
  refine ⟨(kk.block b (lt_of_heap h.obj) (fun e => (hne.2 i hi).1 e.symm)).trans h.obj, ⟨F, (kk.block bw (lt_of_heap hF) (fun e => (hne.2 i hi).2 e.symm)).trans hF, hF2⟩, fun a ha => ?_, h.inj, fun a d hd => ?_, h.hR, h.hC⟩
  · obtain ⟨cur, hr, hw⟩ := h.row a ha
    by_cases hai : a = i
    · subst hai
      refine ⟨_, heap_set hr _ _, fun k hk => ?_⟩
      have e : updIn In a c a = upd (In a) c := by unfold updIn; rw [if_pos rfl]
      rw [Array.getElem?_setIfInBounds, e]
      have hks : k < cur.size := (Array.getElem?_eq_some_iff.1 (hw k hk)).1
      by_cases hkc : c / 64 = k
      · rw [if_pos hkc, if_pos (by omega), hkc]
      · rw [if_neg hkc, hw k hk, wordOf_other _ _ _ (fun e => hkc e.symm)]
    · refine ⟨cur, (kk.block (rb a) (lt_of_heap hr) (fun e => hai (h.inj a i ha hi e))).trans hr, ?_⟩
      unfold updIn
      rw [if_neg hai]
      exact hw
  · unfold updIn upd
    split
    · have : ¬ d = c := by omega
      simp [this, h.out _ _ hd]
    · exact h.out _ _ hd
theorem FamMem.putTot (h : FamMem w b bw rb R C In tot) (n : Nat) : FamMem (w.setCell ⟨b, 3, none⟩ (.int .i64 (n : Int))) b bw rb R C In n := by
  have hne := h.ne
  have kk := Keeps.setCell (S := fun k => k = b) (Keeps.refl _ w) (p := ⟨b, 3, none⟩) (fun _ => rfl) (.int .i64 (n : Int))
  obtain ⟨F, hF, hF2⟩ := h.rows
  refine ⟨heap_set h.obj 3 _, ⟨F, (kk.block bw (lt_of_heap hF) (fun e => hne.1 e.symm)).trans hF, hF2⟩, fun a ha => ?_, h.inj, h.out, h.hR, h.hC⟩
  obtain ⟨cur, hr, hw⟩ := h.row a ha
  exact ⟨cur, (kk.block (rb a) (lt_of_heap hr) (hne.2 a ha).1).trans hr, hw⟩

def AddPost (b bw : Nat) (rb : Nat → Nat) (R C : Nat) (In : Nat → Nat → Bool) (tot : Nat) (i c : Int) (w : World) (e : Ending) (w' : World) : Prop :=
  e = .returned (.bool (addB R C In i c)) ∧ FamMem w' b bw rb R C (addIn R C In i c) (addTot R C In i c tot) ∧ Keeps (famFp b bw rb R) w w'

set_option maxRecDepth 100000 in
set_option maxHeartbeats 1600000 in
theorem fadd_spec (h : FamMem w b bw rb R C In tot) (ht : tot ≤ 1000000000) (i c : Int) (hc0 : -9223372036854775808 ≤ c) (hc1 : c ≤ 9223372036854775807) : Calls Tryd.prog 40 #[.pointer (some ⟨b, 0, none⟩), .int .i64 i, .int .i64 c] w (AddPost b bw rb R C In tot i c w) := by
  have hse := words_eql
  have HR := Lib.hid (frow_spec h i)
  have HH := Lib.hid (fhas_spec h i c hc0 hc1)
  have hat := h.at_ i
  have hC := h.hC
  have c1 : w.cell? ⟨b, 1, none⟩ = some (.int .i64 C) := by rw [cell_of_heap h.obj]; rfl
  have Hno : Hid (addB R C In i c = false → AddPost b bw rb R C In tot i c w (.returned (.bool false)) w) := fun hn => by
    unfold AddPost addIn addTot
    rw [hn]
    exact ⟨rfl, h, Keeps.refl _ _⟩
  by_cases hi : 0 ≤ i ∧ i < R
  · obtain ⟨cp, hv, hcp⟩ := h.rowIn hi.1 hi.2
    have hp : rowP R In i = In i.toNat := by unfold rowP; rw [if_pos hi]
    rw [hv] at HR
    clear hat
    by_cases hcr : 0 ≤ c ∧ c < C
    · obtain ⟨hcr0, hcr1⟩ := hcr
      cases hh : hasB R C In i c with
      | true =>
        rw [hh] at HH
        have hn := Hno.out (by unfold addB; rw [hh]; simp)
        have Hn := Lib.hid hn
        clear hn Hno h hh
        go_enter Tryd.func40, Tryd.ntmps40
        go_wp2_with fail
        refine HR.out.mono ?_
        rintro e w' ⟨rfl, rfl⟩
        go_wp2_with fail
        refine HH.out.mono ?_
        rintro e w' ⟨rfl, rfl⟩
        go_wp2
        go_ret
        exact Hn.out
      | false =>
        rw [hh] at HH
        have hadd : addB R C In i c = true := by unfold addB; rw [hh]; simp; omega
        obtain ⟨a, rfl⟩ : ∃ a : Nat, i = a := ⟨i.toNat, by omega⟩
        obtain ⟨m, rfl⟩ : ∃ m : Nat, c = m := ⟨c.toNat, by omega⟩
        have haR : a < R := by omega
        have hmC : m < C := by omega
        have hK := wordsOf_lt C m hmC
        have hset := wordOf_set (In a) m
        have f1 := h.putRow a m haR hmC
        have cw : w.cell? ⟨rb a, m / 64, none⟩ = some (.int .u64 (wordOf (In a) (m / 64) : Nat)) := (h.word haR hK).1
        have fw : w.frozen? ⟨rb a, m / 64, none⟩ = false := (h.word haR hK).2
        have hX := wordOf_lt (In a) (m / 64)
        have Hpost : Hid (∀ W, FamMem W b bw rb R C (updIn In a m) (tot + 1) → Keeps (famFp b bw rb R) w W → AddPost b bw rb R C In tot a m w (.returned (.bool true)) W) := fun W hW hk => by
          unfold AddPost addIn addTot
          rw [hadd]
          exact ⟨rfl, hW, hk⟩
        obtain ⟨q, hq⟩ : ∃ q, q = m / 64 := ⟨_, rfl⟩
        obtain ⟨j, hj⟩ : ∃ j, j = m % 64 := ⟨_, rfl⟩
        rw [← hq] at hK hset f1 cw fw hX
        rw [← hj] at hset
        have hj64 : j < 64 := by omega
        obtain ⟨Z, hZ⟩ : ∃ Z, Z = 2 ^ j := ⟨_, rfl⟩
        rw [← hZ] at hset
        have hZl : Z < 18446744073709551616 := by rw [hZ]; exact Nat.pow_lt_pow_right (a := 2) (by decide) hj64
        have hw2 : IntKind.u64.wrap ((2 : Int) ^ j) = (Z : Int) := by
          have : ((2 : Int) ^ j) = (Z : Int) := by rw [hZ]; simp
          rw [this]; exact IntWalk.u64_in _ (by omega)
        have hor := u64_or_nat (wordOf (In a) q) Z hX hZl
        rw [hset] at hor
        generalize wordOf (In a) q = X at cw hor
        generalize wordOf (upd (In a) m) q = Y at f1 hor
        have e1 : (m : Int) / 64 = (q : Int) := by omega
        have e2 : (m : Int) % 64 = (j : Int) := by omega
        have e3 : IntKind.i64.wrap (((m : Int)).tdiv 64) = (q : Int) := (IntWalk.i64_quo _ _ (by omega)).trans e1
        have e4 : ((m : Int)).tmod 64 = (j : Int) := by rw [Int.tmod_eq_emod_of_nonneg (by omega)]; exact e2
        have hKI : (q : Int) < (wordsOf C : Int) := by omega
        have hj64' : (j : Int) < 64 := by omega
        have hlb : rb a < w.heap.size := lt_of_cell cw
        have F1 := Lib.hid f1
        have Hh := Lib.hid h
        clear h hh hadd hset hq hj hZ hZl hX f1 Hno hv hp
        rw [show ((a : Int)).toNat = a from rfl] at HR
        go_enter Tryd.func40, Tryd.ntmps40
        go_wp2_with fail
        refine HR.out.mono ?_
        rintro e w' ⟨rfl, rfl⟩
        go_wp2_with fail
        refine HH.out.mono ?_
        rintro e w' ⟨rfl, rfl⟩
        go_wp2_with fail
        go_region
        have kk := (Keeps.setCell (S := famFp b bw rb R) (Keeps.refl _ w) (p := ⟨rb a, q, none⟩) (fun _ => .inr (.inr ⟨a, haR, rfl⟩)) (.int .u64 (Y : Int))).drew
        have ff : FamMem (w.setCell ⟨rb a, q, none⟩ (.int .u64 (Y : Int))).drew b bw rb R C (updIn In a m) tot := F1.out.keeps ((Keeps.refl (fun _ => False) _).drew) (fun _ _ x => x)
        generalize (w.setCell ⟨rb a, q, none⟩ (.int .u64 (Y : Int))).drew = W1 at kk ff ⊢
        have c3 : W1.cell? ⟨b, 3, none⟩ = some (.int .i64 tot) := by rw [cell_of_heap ff.obj]; rfl
        have f3 : W1.frozen? ⟨b, 3, none⟩ = false := free_of_heap ff.obj 3
        have hlb1 : b < W1.heap.size := lt_of_heap ff.obj
        have f4 := ff.putTot (tot + 1)
        rw [show (((tot + 1 : Nat)) : Int) = (tot : Int) + 1 from by omega] at f4
        have hwt : IntKind.i64.wrap ((tot : Int) + 1) = (tot : Int) + 1 := IntWalk.i64_in _ (by omega)
        have KK := Lib.hid kk; have F4 := Lib.hid f4
        clear kk ff f4 F1 Hh cw fw hor hw2 e1 e2 e3 e4 hlb hKI hj64' hK
        go_wp2_with fail
        go_region
        go_wp2
        go_ret
        refine Hpost.out _ (F4.out.keeps ((Keeps.refl (fun _ => False) _).drew) (fun _ _ x => x)) ((KK.out.trans ?_))
        exact (Keeps.setCell (S := famFp b bw rb R) (Keeps.refl _ W1) (p := ⟨b, 3, none⟩) (fun _ => .inl rfl) _).drew
    · have hn := Hno.out (by unfold addB; rw [Bool.and_eq_false_imp]; intro h; simp at h; omega)
      have Hn := Lib.hid hn
      clear hn Hno h
      rcases Int.lt_or_le c 0 with h0 | h0
      · clear hcr
        go_enter Tryd.func40, Tryd.ntmps40
        go_wp2_with fail
        refine HR.out.mono ?_
        rintro e w' ⟨rfl, rfl⟩
        go_wp2
        go_ret
        exact Hn.out
      · have hcC : (C : Int) ≤ c := by omega
        clear hcr
        go_enter Tryd.func40, Tryd.ntmps40
        go_wp2_with fail
        refine HR.out.mono ?_
        rintro e w' ⟨rfl, rfl⟩
        go_wp2
        go_ret
        exact Hn.out
  · have hv : rowV w bw R i = .slice none 0 0 := rowNo hi
    rw [hv] at HR
    have hn := Hno.out (by unfold addB; rw [Bool.and_eq_false_imp]; intro h; simp at h; omega)
    have Hn := Lib.hid hn
    clear hn Hno h hv hat hi
    go_enter Tryd.func40, Tryd.ntmps40
    go_wp2_with fail
    refine HR.out.mono ?_
    rintro e w' ⟨rfl, rfl⟩
    go_wp2
    go_ret
    exact Hn.out
end
end Go.Proofs.YtaabmkebbnkonaaDoor
/-
  How many there are in all sets together: the plain laws of adding.
-/
set_option linter.unusedVariables false
set_option linter.unusedSimpArgs false
set_option linter.unnecessarySimpa false
namespace Go.Proofs.YtaabmkebbnkonaaDoor
open Go.ChangeShapes Go.WideShapes Go.ChangeAt Go.RowKit Go.Deep SetPlain

def putB (A : Nat → Int × Int) (i c : Nat) : Nat → Bool
  | 0 => false
  | n + 1 => putB A i c n || decide (A n = ((i : Int), (c : Int)))
def stIn (R C : Nat) (A : Nat → Int × Int) : Nat → Nat → Nat → Bool
  | 0 => fun _ _ => false
  | n + 1 => addIn R C (stIn R C A n) (A n).1 (A n).2
def stTot (R C : Nat) (A : Nat → Int × Int) : Nat → Nat
  | 0 => 0
  | n + 1 => addTot R C (stIn R C A n) (A n).1 (A n).2 (stTot R C A n)
def sumTo (f : Nat → Nat) : Nat → Nat
  | 0 => 0
  | n + 1 => sumTo f n + f n
theorem sumTo_congr {f g : Nat → Nat} : ∀ n, (∀ j, j < n → f j = g j) → sumTo f n = sumTo g n
  | 0, _ => rfl
  | n + 1, h => by unfold sumTo; rw [sumTo_congr n (fun j hj => h j (by omega)), h n (by omega)]
theorem sumTo_up {f g : Nat → Nat} (i : Nat) (h : ∀ j, j ≠ i → f j = g j) (hi : f i = g i + 1) : ∀ n, i < n → sumTo f n = sumTo g n + 1
  | 0, h0 => absurd h0 (Nat.not_lt_zero _)
  | n + 1, hn => by
    unfold sumTo
    rcases Nat.lt_or_ge i n with h1 | h1
    · rw [sumTo_up i h hi n h1, h n (by omega)]; omega
    · obtain rfl : i = n := by omega
      rw [hi, sumTo_congr i (fun j hj => h j (by omega))]; omega
theorem addB_iff {R C : Nat} {In : Nat → Nat → Bool} {i c : Int} : addB R C In i c = true ↔ ∃ a m : Nat, i = a ∧ c = m ∧ a < R ∧ m < C ∧ In a m = false := by
  unfold addB hasB rowP
  constructor
  · intro h
    simp only [Bool.and_eq_true, decide_eq_true_eq, Bool.not_eq_true'] at h
    obtain ⟨⟨h1, h2, h3, h4⟩, h5⟩ := h
    refine ⟨i.toNat, c.toNat, by omega, by omega, by omega, by omega, ?_⟩
    rw [if_pos ⟨h1, h2⟩] at h5
    simpa [h3, h4] using h5
  · rintro ⟨a, m, rfl, rfl, h1, h2, h3⟩
    have e1 : (0 : Int) ≤ (a : Int) ∧ (a : Int) < (R : Int) := by omega
    rw [if_pos e1]
    have e2 : decide (0 ≤ (a : Int) ∧ (a : Int) < (R : Int) ∧ 0 ≤ (m : Int) ∧ (m : Int) < (C : Int)) = true := by simp; omega
    rw [e2]
    show (true && !(decide _ && In a m)) = true
    rw [h3]; simp
theorem addIn_get {R C : Nat} {In : Nat → Nat → Bool} {i c : Int} {a m : Nat} (ha : a < R) (hm : m < C) : addIn R C In i c a m = (In a m || decide ((i, c) = ((a : Int), (m : Int)))) := by
  unfold addIn
  cases h : addB R C In i c with
  | true =>
    obtain ⟨x, y, rfl, rfl, h1, h2, h3⟩ := addB_iff.1 h
    rw [if_pos rfl]
    show updIn In x y a m = _
    unfold updIn
    by_cases hax : a = x
    · subst hax
      rw [if_pos rfl]
      unfold upd
      by_cases hmy : m = y
      · subst hmy; simp
      · have : ¬ ((y : Int) = (m : Int)) := by omega
        simp [hmy, this]
    · rw [if_neg hax]
      have : ¬ ((x : Int) = (a : Int)) := by omega
      simp [this]
  | false =>
    rw [if_neg (by simp)]
    by_cases he : (i, c) = ((a : Int), (m : Int))
    · have h1 : In a m = true := by
        cases hin : In a m with
        | true => rfl
        | false =>
          simp only [Prod.mk.injEq] at he
          rw [addB_iff.2 ⟨a, m, he.1, he.2, ha, hm, hin⟩] at h; cases h
      rw [h1]; rfl
    · simp [he]
theorem stIn_get {R C : Nat} {A : Nat → Int × Int} {a m : Nat} (ha : a < R) (hm : m < C) : ∀ n, stIn R C A n a m = putB A a m n
  | 0 => rfl
  | n + 1 => by
    show addIn R C (stIn R C A n) (A n).1 (A n).2 a m = (putB A a m n || decide (A n = ((a : Int), (m : Int))))
    rw [addIn_get ha hm, stIn_get ha hm n]
theorem addTot_sum {R C : Nat} {In : Nat → Nat → Bool} {i c : Int} {tot : Nat} (ht : tot = sumTo (fun a => cnt (In a) C) R) : addTot R C In i c tot = sumTo (fun a => cnt (addIn R C In i c a) C) R := by
  unfold addTot addIn
  cases h : addB R C In i c with
  | true =>
    obtain ⟨x, y, rfl, rfl, h1, h2, h3⟩ := addB_iff.1 h
    rw [if_pos rfl, if_pos rfl, ht]
    symm
    refine sumTo_up x (fun j hj => ?_) ?_ R h1
    · show cnt (updIn In x y j) C = _
      unfold updIn; rw [if_neg hj]
    · show cnt (updIn In x y x) C = _
      unfold updIn; rw [if_pos rfl]
      exact cnt_upd h2 h3
  | false => rw [if_neg (by simp), if_neg (by simp), ht]
where
  cnt_upd {p : Nat → Bool} {y C : Nat} (h2 : y < C) (h3 : p y = false) : cnt (upd p y) C = cnt p C + 1 := by
    induction C with
    | zero => exact absurd h2 (Nat.not_lt_zero _)
    | succ C ih =>
      unfold cnt
      rcases Nat.lt_or_ge y C with h | h
      · rw [ih h]
        have : upd p y C = p C := by unfold upd; have : ¬ C = y := by omega
                                     simp [this]
        rw [this]; omega
      · obtain rfl : y = C := by omega
        have e1 : cnt (upd p y) y = cnt p y := cnt_congr _ fun j hj => by unfold upd; have : ¬ j = y := by omega
                                                                          simp [this]
        have e2 : upd p y y = true := by unfold upd; simp
        rw [e1, e2, h3]; simp
theorem stTot_sum {R C : Nat} {A : Nat → Int × Int} : ∀ n, stTot R C A n = sumTo (fun a => cnt (stIn R C A n a) C) R
  | 0 => by
    have : ∀ R, sumTo (fun a => cnt (fun _ => false) C) R = 0 := fun R => by
      induction R with
      | zero => rfl
      | succ R ih => unfold sumTo; rw [ih, cnt_none _ _ (fun _ _ => rfl)]
    exact (this R).symm
  | n + 1 => addTot_sum (stTot_sum n)
theorem sumTo_le {f : Nat → Nat} {c : Nat} (h : ∀ a, f a ≤ c) : ∀ n, sumTo f n ≤ c * n
  | 0 => Nat.zero_le _
  | n + 1 => by have := sumTo_le h n; have := h n; unfold sumTo; rw [Nat.mul_add]; omega
theorem stTot_le {R C : Nat} {A : Nat → Int × Int} : ∀ n, stTot R C A n ≤ n
  | 0 => Nat.le_refl _
  | n + 1 => by
    have := stTot_le (R := R) (C := C) (A := A) n
    show addTot R C _ _ _ _ ≤ n + 1
    unfold addTot
    split <;> omega
theorem allIn_self (p : Nat → Bool) (n : Nat) : allIn p p n = true := (allIn_iff p p n).2 fun _ _ h => h
theorem anyIn_self (p : Nat → Bool) (n : Nat) : anyIn p p n = decide (0 < cnt p n) := by
  rw [Bool.eq_iff_iff, anyIn_iff]
  simp only [decide_eq_true_eq]
  constructor
  · rintro ⟨j, hj, hp, _⟩
    rcases Nat.eq_zero_or_pos (cnt p n) with h | h
    · rw [cnt_zero n h j hj] at hp; cases hp
    · exact h
  · intro h
    apply Classical.byContradiction
    intro hno
    rw [cnt_none p n (fun j hj => by
      cases hp : p j with
      | false => rfl
      | true => exact absurd ⟨j, hj, hp, hp⟩ hno)] at h
    omega
theorem rowP_nat {R : Nat} {In : Nat → Nat → Bool} {i : Nat} (h : i < R) : rowP R In (i : Int) = In i := by
  unfold rowP; rw [if_pos (by omega)]; rfl
theorem hasB_nat {R C : Nat} {In : Nat → Nat → Bool} {i c : Nat} (h : i < R) (hc : c < C) : hasB R C In (i : Int) (c : Int) = In i c := by
  unfold hasB
  rw [rowP_nat h, show decide (0 ≤ (c : Int) ∧ (c : Int) < (C : Int)) = true from by simp; omega]
  rfl
end Go.Proofs.YtaabmkebbnkonaaDoor
/-
  A row of the program's own that may begin behind its block's first cell: what is left of a queue; append to it, and what is behind its first element.
-/
set_option linter.unusedVariables false
set_option linter.unusedSimpArgs false
namespace Go.Proofs.YtaabmkebbnkonaaDoor
open Go.ChangeShapes Go.WideShapes Go.ChangeAt Go.RowKit Go.Deep

theorem heap_setCells (b : Nat) {t : TypeId} {fr : Nat × Nat} : ∀ (vs : List Value) (o : Nat) (w : World) (c : Array Value), w.heap[b]? = some (.cells c t fr) →
    ∃ c', (w.setCells b o vs).heap[b]? = some (.cells c' t fr) ∧ c'.size = c.size ∧ (∀ i, i < o ∨ o + vs.length ≤ i → c'[i]? = c[i]?) ∧ (o + vs.length ≤ c.size → ∀ j, j < vs.length → c'[o + j]? = vs[j]?)
  | [], o, w, c, h => ⟨c, h, rfl, fun _ _ => rfl, fun _ j hj => absurd hj (Nat.not_lt_zero _)⟩
  | v :: r, o, w, c, h => by
    obtain ⟨c', h1, h2, h3, h4⟩ := heap_setCells b r (o + 1) (w.setCell ⟨b, o, none⟩ v) (c.setIfInBounds o v) (heap_set h o v)
    refine ⟨c', h1, by rw [h2]; simp, fun i hi => ?_, fun hl j hj => ?_⟩
    · rw [h3 i (by simp only [List.length_cons] at hi; omega), Array.getElem?_setIfInBounds_ne (by simp only [List.length_cons] at hi; omega)]
    · simp only [List.length_cons] at hl hj
      cases j with
      | zero =>
        rw [Nat.add_zero, h3 o (.inl (by omega)), Array.getElem?_setIfInBounds_self_of_lt (by omega)]
        rfl
      | succ j =>
        have := h4 (by simp only [Array.size_setIfInBounds]; omega) j (by omega)
        rw [show o + (j + 1) = o + 1 + j from by omega, this]
        rfl

/-- A row that may begin behind its block's first cell. -/
def TailRow (w : World) (e : TypeId) (size : Nat) (v : Value) (n : Nat) (xs : List Value) : Prop :=
  xs.length = n * size ∧ ((v = .slice none 0 0 ∧ n = 0) ∨ ∃ g k cap cur, v = .slice (some ⟨g, k, none⟩) n cap ∧ w.heap[g]? = some (.cells cur e (0, 0)) ∧ n ≤ cap ∧ cap ≤ maxLen ∧ k + cap * size ≤ cur.size ∧ ∀ j u, xs[j]? = some u → cur[k + j]? = some u)
theorem TailRow.nil (w : World) (e : TypeId) (size : Nat) : TailRow w e size (.slice none 0 0) 0 [] := ⟨by simp, .inl ⟨rfl, rfl⟩⟩
theorem TailRow.of_own {w : World} {base e size : Nat} {v : Value} {n : Nat} {xs : List Value} (h : w.ownsRow base e size v n xs) : TailRow w e size v n xs := by
  obtain ⟨h1, h2 | ⟨g, cap, cur, hv, hg, hh, hle, hm, hs, ht⟩⟩ := h
  · exact ⟨h1, .inl h2⟩
  · refine ⟨h1, .inr ⟨g, 0, cap, cur, hv, hh, hle, hm, by omega, fun j u hu => ?_⟩⟩
    rw [Nat.zero_add, ← hu, ← ht, List.getElem?_take_of_lt, Array.getElem?_toList]
    rcases Nat.lt_or_ge j (n * size) with h | h
    · exact h
    · rw [List.getElem?_eq_none (by omega)] at hu; cases hu
theorem TailRow.keeps {w w' : World} {e size : Nat} {v : Value} {n : Nat} {xs : List Value} {S : Nat → Prop} (h : TailRow w e size v n xs) (hk : Keeps S w w') (hs : ∀ k, v.ownBlock = some k → ¬ S k) : TailRow w' e size v n xs := by
  obtain ⟨h1, h2 | ⟨g, k, cap, cur, hv, hh, r⟩⟩ := h
  · exact ⟨h1, .inl h2⟩
  · exact ⟨h1, .inr ⟨g, k, cap, cur, hv, (hk.block g (lt_of_heap hh) (hs g (by rw [hv]; rfl))).trans hh, r⟩⟩
theorem TailRow.lt {w : World} {e size : Nat} {v : Value} {n : Nat} {xs : List Value} (h : TailRow w e size v n xs) : ∀ k, v.ownBlock = some k → ∃ cur, w.heap[k]? = some (.cells cur e (0, 0)) := by
  intro k hk
  obtain ⟨_, ⟨rfl, _⟩ | ⟨g, k', cap, cur, rfl, hh, _⟩⟩ := h
  · cases hk
  · simp only [Value.ownBlock, Option.some.injEq] at hk; subst hk; exact ⟨cur, hh⟩
theorem TailRow.type {w : World} {e size : Nat} {v : Value} {n : Nat} {xs : List Value} (h : TailRow w e size v n xs) {k : Nat} {c : Array Value} {t : TypeId} {fr : Nat × Nat} (ht : w.heap[k]? = some (.cells c t fr)) (hne : t ≠ e) : v.ownBlock ≠ some k := fun hk => by
  obtain ⟨cur, hc⟩ := h.lt k hk
  rw [hc] at ht
  simp only [Option.some.injEq, Obj.cells.injEq] at ht
  exact hne ht.2.1.symm
/-- Its shape, and its cells. -/
theorem TailRow.form {w : World} {e size : Nat} {v : Value} {n : Nat} {xs : List Value} (h : TailRow w e size v n xs) :
    ∃ ao cap, v = .slice ao n cap ∧ n ≤ cap ∧ cap ≤ maxLen ∧ (ao = none → n = 0 ∧ cap = 0) ∧ (0 < n → ∃ g k, ao = some ⟨g, k, none⟩ ∧ g < w.heap.size ∧ ∀ (j : Nat) (u : Value), xs[j]? = some u → w.cell? ⟨g, k + j, none⟩ = some u) := by
  obtain ⟨hl, ⟨rfl, rfl⟩ | ⟨g, k, cap, cur, rfl, hh, hle, hm, hs, ht⟩⟩ := h
  · exact ⟨none, 0, rfl, Nat.le_refl _, by unfold maxLen; omega, fun _ => ⟨rfl, rfl⟩, fun h => absurd h (Nat.lt_irrefl _)⟩
  · exact ⟨_, cap, rfl, hle, hm, fun h => (by cases h), fun _ => ⟨g, k, rfl, lt_of_heap hh, fun j u hu => by rw [cell_of_heap hh]; exact ht j u hu⟩⟩
/-- What is behind the first element. -/
theorem TailRow.behind {w : World} {e size : Nat} {g k n cap : Nat} {x xs : List Value} (h : TailRow w e size (.slice (some ⟨g, k, none⟩) (n + 1) cap) (n + 1) (x ++ xs)) (hx : x.length = size) :
    TailRow w e size (.slice (some ⟨g, if cap = 1 then k else k + size, none⟩) n (cap - 1)) n xs := by
  obtain ⟨hl, ⟨hv, _⟩ | ⟨g', k', cap', cur, hv, hh, hle, hm, hs, ht⟩⟩ := h
  · cases hv
  · cases hv
    rw [List.length_append, hx, Nat.succ_mul] at hl
    refine ⟨by omega, .inr ⟨g, _, cap - 1, cur, rfl, hh, by omega, by omega, ?_, fun j u hu => ?_⟩⟩
    · obtain ⟨c, rfl⟩ : ∃ c, cap = c + 1 := ⟨cap - 1, by omega⟩
      rw [Nat.succ_mul] at hs
      split
      · obtain rfl : c = 0 := by omega
        omega
      · rw [Nat.add_sub_cancel]; omega
    · have := ht (size + j) u (by rw [List.getElem?_append_right (by omega), hx, Nat.add_sub_cancel_left]; exact hu)
      split
      · obtain rfl : n = 0 := by omega
        have h0 : xs = [] := List.eq_nil_of_length_eq_zero (by omega)
        subst h0
        cases hu
      · rw [Nat.add_assoc]; exact this
theorem run_append_tail {P : Program} (w : World) (t ty e : TypeId) (i : TypeInfo) (z : Value) (size bytes : Nat) (ht : P.underlying t = some (.slice e)) (hi : P.info? e = some i) (hz : i.zero = some z)
    (hsize : i.size = size) (hby : i.bytes = bytes) (hzs : z.cells.size = size) (hsz : 0 < size)
    (v : Value) (n : Nat) (xs : List Value) (hown : TailRow w e size v n xs)
    (ad : Addr) (m c : Nat) (news : List Value) (hl : news.length = m * size) (hnews : ∀ j u, news[j]? = some u → w.cell? (ad.add j) = some u) (h1 : ∀ u ∈ news, u.oneCell' = true)
    (hm : 0 < m) (h63 : n + m ≤ maxLen) (hbytes : (n + m) * bytes ≤ 140737488355328) :
    ∃ ao' cap' w', (Builtin.append_ #[t, t] ty #[v, .slice (some ad) m c]).run P w = .ok (.slice ao' (n + m) cap') w' ∧ TailRow w' e size (.slice ao' (n + m) cap') (n + m) (xs ++ news) ∧ w.grownBy w' v.ownBlock ∧
      (∀ k, (Value.slice ao' (n + m) cap').ownBlock = some k → v.ownBlock = some k ∨ w.heap.size ≤ k) := by
  have fin : ∀ v' w', (Builtin.append_ #[t, t] ty #[v, .slice (some ad) m c]).run P w = .ok v' w' → w'.ownsRow w.heap.size e size v' (n + m) (xs ++ news) → w.grownBy w' none → ∃ ao' cap' w', (Builtin.append_ #[t, t] ty #[v, .slice (some ad) m c]).run P w = .ok (.slice ao' (n + m) cap') w' ∧ TailRow w' e size (.slice ao' (n + m) cap') (n + m) (xs ++ news) ∧ w.grownBy w' v.ownBlock ∧
      (∀ k, (Value.slice ao' (n + m) cap').ownBlock = some k → v.ownBlock = some k ∨ w.heap.size ≤ k) := by
    intro v' w' hr h2 h3
    obtain ⟨ao', cap', rfl, _⟩ := own_form h2
    exact ⟨ao', cap', w', hr, TailRow.of_own h2, ⟨h3.os, h3.tape, h3.output, h3.size, fun k hk _ => h3.block k hk (by simp)⟩, fun k hk => .inr (own_block h2 k hk)⟩
  obtain ⟨hlx, ⟨rfl, rfl⟩ | ⟨g, k, cap, cur, rfl, hh, hle, hmx, hs, hc⟩⟩ := hown
  · obtain rfl : xs = [] := List.eq_nil_of_length_eq_zero (by simpa using hlx)
    obtain ⟨v', w', hr, r1, r2, _⟩ := run_append_own (P := P) w w.heap.size t ty e i z size bytes ht hi hz hsize hby hzs hsz (.slice none 0 0) 0 [] (World.ownsRow_nil w _ e size) ad m c news hl hnews h1 h63 hbytes (Nat.le_refl _)
    exact fin v' w' hr r1 r2
  · by_cases hfit : n + m ≤ cap
    · subst hsize
      have hmul : (n + m) * i.size ≤ cap * i.size := Nat.mul_le_mul_right _ hfit
      rw [Nat.add_mul] at hmul
      have hr := run_append_room_cells (P := P) w t ty e i ht hi g k n cap ad m c news hl hnews h1 hfit
        (fun j hj => by rw [cell_of_heap hh, Array.getElem?_eq_getElem (by omega)]; rfl) (fun j hj => free_of_heap hh _)
      obtain ⟨c', q1, q2, q3, q4⟩ := heap_setCells g news (k + n * i.size) w cur hh
      refine ⟨_, cap, _, hr, ⟨by rw [List.length_append, hlx, hl, Nat.add_mul], .inr ⟨g, k, cap, c', rfl, q1, hfit, hmx, by omega, fun j u hu => ?_⟩⟩, ?_, fun k hk => .inl hk⟩
      · rcases Nat.lt_or_ge j (n * i.size) with hj | hj
        · rw [q3 _ (.inl (by omega))]
          rw [List.getElem?_append_left (by omega)] at hu
          exact hc j u hu
        · rw [List.getElem?_append_right (by omega), hlx] at hu
          have hj2 : j - n * i.size < news.length := by
            rcases Nat.lt_or_ge (j - n * i.size) news.length with h | h
            · exact h
            · rw [List.getElem?_eq_none h] at hu; cases hu
          have := q4 (by omega) (j - n * i.size) hj2
          rw [show k + n * i.size + (j - n * i.size) = k + j from by omega] at this
          rw [this]; exact hu
      · have kk : Keeps (fun x => x = g) w (w.setCells g (k + n * i.size) news) := Keeps.setCells (S := fun x => x = g) g (fun _ => rfl) news _ w (Keeps.refl _ _)
        exact ⟨kk.os, kk.tape, kk.output, kk.size, fun x hx hne => kk.block x hx (fun e => hne (by rw [e]; rfl))⟩
    · obtain ⟨v', w', hr, r1, r2⟩ := run_append_arg_grows (P := P) w t ty e i z size bytes ht hi hz hsize hby hzs hsz ⟨g, k, none⟩ n cap xs hlx (fun j u hu => by rw [add_plain, cell_of_heap hh]; exact hc j u hu) ad m c news hl hnews (by omega) h63 hbytes
      exact fin v' w' hr r1 r2
theorem step_append_tail {P : Program} {ops : Array Oper} {o : Oper} {a : Act} {w : World} {K : Act → World → Prop} {Q : Exit → Act → World → Prop} {E : Prop}
    (hg : o.guard = none) (s x : Operand) (t : TypeId) (hop : o.op = Op.call { callee := Callee.builtin Builtin.append, args := #[s, x], argTypes := #[t, t] })
    (e : TypeId) (i : TypeInfo) (z : Value) (size bytes : Nat) (ht : P.underlying t = some (.slice e)) (hi : P.info? e = some i) (hz : i.zero = some z)
    (hsize : i.size = size) (hby : i.bytes = bytes) (hzs : z.cells.size = size) (hsz : 0 < size)
    (v : Value) (n : Nat) (xs : List Value) (hs : a.eval s = v) (hown : TailRow w e size v n xs)
    (ad : Addr) (m c : Nat) (news : List Value) (hx : a.eval x = .slice (some ad) m c) (hl : news.length = m * size) (hnews : ∀ j u, news[j]? = some u → w.cell? (ad.add j) = some u) (h1 : ∀ u ∈ news, u.oneCell' = true)
    (hm : 0 < m) (h63 : n + m ≤ maxLen) (hbytes : (n + m) * bytes ≤ 140737488355328)
    (hK : ∀ ao' cap' w', TailRow w' e size (.slice ao' (n + m) cap') (n + m) (xs ++ news) → w.grownBy w' v.ownBlock → (∀ k, (Value.slice ao' (n + m) cap').ownBlock = some k → v.ownBlock = some k ∨ w.heap.size ≤ k) → K (a.put o.dst (.slice ao' (n + m) cap')) w') :
    if Region.wanted o (yielded ops a.tmps) = true then Oper.wp P o a w K Q else E := by
  have hw : Region.wanted o (yielded ops a.tmps) = true := by simp [Region.wanted, hg]
  rw [if_pos hw]
  obtain ⟨ao', cap', w', hr, r1, r2, r3⟩ := run_append_tail (P := P) w t o.type e i z size bytes ht hi hz hsize hby hzs hsz v n xs hown ad m c news hl hnews h1 hm h63 hbytes
  unfold Oper.wp
  simp [execOp, hop, resolve, invoke, builtin, hs, hx, hr, Result.andThen]
  exact hK ao' cap' w' r1 r2 r3
theorem wpList_append_tail {P : Program} (w : World) {ops : Array Oper} {rest : List Oper} {o : Oper} {a : Act} {Q : Exit → Act → World → Prop} (hgd : o.guard = none) (s x : Operand) (t : TypeId)
    (ho : o.op = .call { callee := .builtin .append, args := #[s, x], argTypes := #[t, t] })
    (e : TypeId) (i : TypeInfo) (z : Value) (size bytes : Nat) (ht : P.underlying t = some (.slice e)) (hi : P.info? e = some i) (hz : i.zero = some z)
    (hsize : i.size = size) (hby : i.bytes = bytes) (hzs : z.cells.size = size) (hsz : 0 < size)
    (v : Value) (n : Nat) (xs : List Value) (hs : a.eval s = v) (hown : TailRow w e size v n xs)
    (ad : Addr) (m c : Nat) (news : List Value) (hx : a.eval x = .slice (some ad) m c) (hl : news.length = m * size) (hnews : ∀ j u, news[j]? = some u → w.cell? (ad.add j) = some u) (h1 : ∀ u ∈ news, u.oneCell' = true)
    (hm : 0 < m) (h63 : n + m ≤ maxLen) (hbytes : (n + m) * bytes ≤ 140737488355328)
    (h : ∀ ao' cap' w', TailRow w' e size (.slice ao' (n + m) cap') (n + m) (xs ++ news) → w.grownBy w' v.ownBlock → (∀ k, (Value.slice ao' (n + m) cap').ownBlock = some k → v.ownBlock = some k ∨ w.heap.size ≤ k) → wpList P ops Q rest (a.put o.dst (.slice ao' (n + m) cap')) w') : wpList P ops Q (o :: rest) a w := by
  refine wpList_plain hgd fun K hK' => ?_
  obtain ⟨ao', cap', w', hr, r1, r2, r3⟩ := run_append_tail (P := P) w t o.type e i z size bytes ht hi hz hsize hby hzs hsz v n xs hown ad m c news hl hnews h1 hm h63 hbytes
  unfold Oper.wp
  simp [execOp, ho, resolve, invoke, builtin, hs, hx, hr, Result.andThen]
  exact hK' _ _ (h ao' cap' w' r1 r2 r3)
end Go.Proofs.YtaabmkebbnkonaaDoor
/-
  New of families of sets.
-/
set_option linter.unusedVariables false
set_option linter.unusedSimpArgs false
set_option linter.unnecessarySimpa false
namespace Go.Proofs.YtaabmkebbnkonaaDoor
open Go.ChangeShapes Go.WideShapes Go.ChangeAt Go.RowKit Go.Deep SetPlain

theorem wordsInfo : (Tryd.prog.info? 76).map (fun i => (i.zero, i.size, i.bytes)) = some (some (.slice none 0 0), 1, 24) := by kernel_rfl
theorem u64Info : (Tryd.prog.info? 91).map (fun i => (i.zero, i.size, i.bytes)) = some (some (.int .u64 0), 1, 8) := by kernel_rfl

/-- A number between limits. -/
def Within (n : Int) (most R : Nat) : Prop := (n ≤ 0 ∧ R = 0) ∨ (0 < n ∧ n ≤ most ∧ (R : Int) = n) ∨ ((most : Int) < n ∧ R = most)
theorem within_cases (n : Int) (most : Nat) : ∃ R, Within n most R := by
  rcases Int.lt_or_le 0 n with h | h
  · rcases Int.lt_or_le most n with h1 | h1
    · exact ⟨most, .inr (.inr ⟨h1, rfl⟩)⟩
    · exact ⟨n.toNat, .inr (.inl ⟨h, h1, by omega⟩)⟩
  · exact ⟨0, .inl ⟨h, rfl⟩⟩
theorem Within.le {n : Int} {most R : Nat} (h : Within n most R) : R ≤ most := by
  unfold Within at h; omega
set_option maxRecDepth 10000 in
theorem within_any (n : Int) (most R : Nat) (hm0 : 0 < most) (hm : most ≤ 10000) (h : Within n most R) (w : World) : Calls Tryd.prog 37 #[.int .i64 n, .int .i64 most] w fun e w' => e = .returned (.int .i64 R) ∧ w = w' := by
  rcases h with ⟨h, rfl⟩ | ⟨h1, h2, h3⟩ | ⟨h, rfl⟩
  · have hm1 : ¬ (most : Int) < n := by omega
    go_enter Tryd.func37, Tryd.ntmps37
    go_wp2
    go_ret
    exact ⟨rfl, rfl⟩
  · obtain rfl : n = (R : Int) := h3.symm
    go_enter Tryd.func37, Tryd.ntmps37
    go_wp2
    go_ret
    exact ⟨rfl, rfl⟩
  · go_enter Tryd.func37, Tryd.ntmps37
    go_wp2
    go_ret
    exact ⟨rfl, rfl⟩

theorem wordRow_zero (K : Nat) : madeCells #[Value.int .u64 0] K = wordRow (fun _ => false) K := by
  rw [madeRow]
  unfold wordRow
  apply fnRow_congr
  intro k _
  have : wordOf (fun _ => false) k = 0 := (wordOf_zero _ _).2 (fun _ _ => rfl)
  rw [this]; rfl

structure NewInv (w : World) (R C k : Nat) (wr : World) : Prop where
  size : wr.heap.size = w.heap.size + 2 + k
  obj : wr.heap[w.heap.size]? = some (famObj R C (w.heap.size + 1) 0)
  rows : wr.heap[w.heap.size + 1]? = some (.cells (fnRow (fun j => if j < k then rowSl (fun i => w.heap.size + 2 + i) (wordsOf C) j else .slice none 0 0) R) 76 (0, 0))
  row : ∀ i, i < k → wr.heap[w.heap.size + 2 + i]? = some (.cells (wordRow (fun _ => false) (wordsOf C)) 91 (0, 0))
  below : Below w.heap.size w wr
theorem NewInv.step {w wr : World} {R C k : Nat} (h : NewInv w R C k wr) (hk : k < R) : NewInv w R C (k + 1) (((wr.alloc (.cells (madeCells #[Value.int .u64 0] (wordsOf C)) 91)).setCell ⟨w.heap.size + 1, k, none⟩ (.slice (some ⟨wr.heap.size, 0, none⟩) (wordsOf C) (wordsOf C))).drew) := by
  have ka := (Keeps.refl (fun _ => False) wr).alloc (.cells (madeCells #[Value.int .u64 0] (wordsOf C)) 91)
  have hz := h.size
  have lo := lt_of_heap h.obj
  have lr := lt_of_heap h.rows
  have ks := Keeps.setCell (S := fun i => i = w.heap.size + 1) (Keeps.refl _ (wr.alloc (.cells (madeCells #[Value.int .u64 0] (wordsOf C)) 91))) (p := ⟨w.heap.size + 1, k, none⟩) (fun _ => rfl) (.slice (some ⟨wr.heap.size, 0, none⟩) (wordsOf C) (wordsOf C))
  have key : ∀ i, i < wr.heap.size → i ≠ w.heap.size + 1 → (((wr.alloc (.cells (madeCells #[Value.int .u64 0] (wordsOf C)) 91)).setCell ⟨w.heap.size + 1, k, none⟩ (.slice (some ⟨wr.heap.size, 0, none⟩) (wordsOf C) (wordsOf C))).drew).heap[i]? = wr.heap[i]? := fun i hi hne => by
    have h1 := ks.block i (by simp; omega) hne
    have h2 := ka.block i hi (fun x => x)
    exact h1.trans h2
  refine ⟨?_, (key _ lo (by omega)).trans h.obj, ?_, fun i hi => ?_, ?_⟩
  · show ((wr.alloc _).setCell _ _).heap.size = _
    simp [World.setCell]; omega
  · have h2 := (ka.block _ lr (fun x => x)).trans h.rows
    have h3 := heap_set h2 k (.slice (some ⟨wr.heap.size, 0, none⟩) (wordsOf C) (wordsOf C))
    refine h3.trans ?_
    rw [fnRow_set _ _ _ _ hk]
    congr 2
    apply fnRow_congr
    intro j hj
    show (if j = k then Value.slice (some ⟨wr.heap.size, 0, none⟩) (wordsOf C) (wordsOf C) else if j < k then rowSl _ _ j else .slice none 0 0) = if j < k + 1 then rowSl _ _ j else .slice none 0 0
    by_cases hjk : j = k
    · subst hjk
      rw [if_pos rfl, if_pos (by omega)]
      unfold rowSl
      rw [hz]
    · rw [if_neg hjk]
      by_cases h1 : j < k
      · rw [if_pos h1, if_pos (by omega)]
      · rw [if_neg h1, if_neg (by omega)]
  · rcases Nat.lt_or_ge i k with h1 | h1
    · rw [key _ (by omega) (by omega)]
      exact h.row i h1
    · obtain rfl : i = k := by omega
      have h1 := ks.block (w.heap.size + 2 + i) (by simp; omega) (by omega)
      refine h1.trans ?_
      rw [← hz, heap_alloc_new, wordRow_zero]
  · exact ((h.below.alloc (by omega) _).setCell (by simp) _).drew
theorem NewInv.fam {w wr : World} {R C : Nat} (h : NewInv w R C R wr) (hR : R ≤ 5000) (hC : C ≤ 1000) : FamMem wr w.heap.size (w.heap.size + 1) (fun i => w.heap.size + 2 + i) R C (fun _ _ => false) 0 := by
  refine ⟨h.obj, ⟨_, h.rows, fun i hi => ⟨wordsOf C, if_pos hi, Nat.le_refl _⟩⟩, fun i hi => ⟨_, h.row i hi, fun k hk => fnRow_get _ _ _ hk⟩, fun i j _ _ e => by omega, fun _ _ _ => rfl, hR, hC⟩

def FamNewPost (R C : Nat) (w : World) (e : Ending) (w' : World) : Prop :=
  e = .returned (.pointer (some ⟨w.heap.size, 0, none⟩)) ∧ FamMem w' w.heap.size (w.heap.size + 1) (fun i => w.heap.size + 2 + i) R C (fun _ _ => false) 0 ∧ Below w.heap.size w w'
set_option maxRecDepth 100000 in
set_option maxHeartbeats 1600000 in
theorem fnew_spec (rows cols : Int) (R C : Nat) (hR : Within rows 5000 R) (hC : Within cols 1000 C) (w : World) : Calls Tryd.prog 23 #[.int .i64 rows, .int .i64 cols] w (FamNewPost R C w) := by
  have hRl := hR.le
  have hCl := hC.le
  have W1 : Hid (Calls Tryd.prog 37 #[.int .i64 rows, .int .i64 5000] w fun e w' => e = .returned (.int .i64 R) ∧ w = w') := within_any rows 5000 R (by decide) (by decide) hR w
  have W2 : Hid (Calls Tryd.prog 37 #[.int .i64 cols, .int .i64 1000] w fun e w' => e = .returned (.int .i64 C) ∧ w = w') := within_any cols 1000 C (by decide) (by decide) hC w
  have hmk2 := fun W => run_make_row' (P := Tryd.prog) 72 76 (.slice none 0 0) 24 Tryd.underlying72 wordsInfo rfl .i64 .i64 R (by omega) (by omega) W
  have hmk := fun W => run_make_row' (P := Tryd.prog) 76 91 (.int .u64 0) 8 Tryd.underlying76 u64Info rfl .i64 .i64 (wordsOf C) (by unfold wordsOf; omega) (by unfold wordsOf; omega) W
  clear hR hC
  go_enter Tryd.func23, Tryd.ntmps23
  go_wp2_with fail
  refine W1.out.mono ?_
  rintro e w' ⟨rfl, rfl⟩
  go_wp2_with fail
  refine W2.out.mono ?_
  rintro e w' ⟨rfl, rfl⟩
  go_wp2_with fail
  have hinv : NewInv w R C 0 ((w.alloc (.cells #[.int .i64 R, .int .i64 C, .slice (some ⟨w.heap.size + 1, 0, none⟩) R R, .int .i64 0] 75)).alloc (.cells (madeCells #[Value.slice none 0 0] R) 76)) := by
    refine ⟨by simp, ?_, ?_, fun i hi => absurd hi (Nat.not_lt_zero _), ((Below.refl _ _).alloc (Nat.le_refl _) _).alloc (by simp) _⟩
    · rw [Below.heap_alloc _ _ _ (by simp), heap_alloc_new]
      rfl
    · have := heap_alloc_new (w.alloc (.cells #[.int .i64 R, .int .i64 C, .slice (some ⟨w.heap.size + 1, 0, none⟩) R R, .int .i64 0] 75)) (.cells (madeCells #[Value.slice none 0 0] R) 76)
      rw [show (w.alloc (.cells #[.int .i64 R, .int .i64 C, .slice (some ⟨w.heap.size + 1, 0, none⟩) R R, .int .i64 0] 75)).heap.size = w.heap.size + 1 from by simp] at this
      rw [this, madeRow]
      rfl
  have HI := Lib.hid hinv
  clear hinv hmk2 W1 W2
  have e1 : IntKind.i64.wrap ((C : Int) + 64) = (C : Int) + 64 := IntWalk.i64_in _ (by omega)
  have e2 : IntKind.i64.wrap ((C : Int) + 64 - 1) = (C : Int) + 63 := (IntWalk.i64_in _ (by omega)).trans (by omega)
  have e2' : IntKind.i64.wrap ((C : Int) + 63) = (C : Int) + 63 := IntWalk.i64_in _ (by omega)
  have hkk : ((C : Int) + 63) / 64 = (wordsOf C : Int) := by unfold wordsOf; omega
  have e3 : IntKind.i64.wrap (((C : Int) + 63).tdiv 64) = (wordsOf C : Int) := (IntWalk.i64_quo _ _ (by omega)).trans hkk
  have hK16 : wordsOf C ≤ 16 := by unfold wordsOf; omega
  generalize hKW : wordsOf C = K at hmk hkk e3 hK16
  have HK := Lib.hid hKW
  clear hKW
  go_loopg [25] R (fun g s wr => ∃ k : Nat, k ≤ R ∧ g = R - k ∧ s = .int .i64 k ∧ Hid (NewInv w R C k wr))
  case atStart => exact ⟨0, Nat.zero_le _, rfl, rfl, HI.out⟩
  case round =>
    clear HI
    obtain ⟨k, hk, rfl, rfl, hin⟩ := hrel
    have hio := hin.out
    by_cases hlt : k < R
    · have c1 : wr.cell? ⟨w.heap.size, 1, none⟩ = some (.int .i64 C) := by rw [cell_of_heap hio.obj]; rfl
      have c2 : wr.cell? ⟨w.heap.size, 2, none⟩ = some (.slice (some ⟨w.heap.size + 1, 0, none⟩) R R) := by rw [cell_of_heap hio.obj]; rfl
      have c3 : wr.cell? ⟨w.heap.size + 1, k, none⟩ = some (.slice none 0 0) := by rw [cell_of_heap hio.rows, fnRow_get _ _ _ hlt, if_neg (Nat.lt_irrefl _)]
      have f3 : wr.frozen? ⟨w.heap.size + 1, k, none⟩ = false := free_of_heap hio.rows k
      have l1 : w.heap.size < wr.heap.size := lt_of_heap hio.obj
      have l2 : w.heap.size + 1 < wr.heap.size := lt_of_heap hio.rows
      have hkI : (k : Int) < (R : Int) := by omega
      have hst := hio.step hlt
      rw [HK.out] at hst
      rw [World.setCell_alloc_past _ _ _ _ l2] at hst
      have HST := Lib.hid hst
      clear hst hio
      go_wp2_with fail
      go_region
      go_wp2_with fail
      go_roundg (R - (k + 1))
      case measure => omega
      case rel => exact ⟨k + 1, by omega, rfl, by go_num, HST.out⟩
    · obtain rfl : k = R := by omega
      clear hio
      go_wp2
      go_ret
      exact ⟨rfl, hin.out.fam hRl hCl, hin.out.below⟩
end Go.Proofs.YtaabmkebbnkonaaDoor
/-
  The maker of a model in memory: its fields, the rows of rules, the queue.
-/
set_option linter.unusedVariables false
set_option linter.unusedSimpArgs false
namespace Go.Proofs.YtaabmkebbnkonaaDoor
open Go.ChangeShapes Go.WideShapes Go.ChangeAt Go.RowKit Go.Deep SetPlain

/-- A rule by its numbers. -/
structure Rl where
  kind : Int
  head : Int
  who : Int
  a : Int
  b : Int
  via : Int
deriving DecidableEq
def Rl.cells (r : Rl) : List Value := [.int .i64 r.kind, .int .i64 r.head, .int .i64 r.who, .int .i64 r.a, .int .i64 r.b, .int .i64 r.via]
def rlCells : List Rl → List Value
  | [] => []
  | r :: l => r.cells ++ rlCells l
def fcCells : List (Nat × Nat) → List Value
  | [] => []
  | f :: l => [.int .i64 f.1, .int .i64 f.2] ++ fcCells l
theorem rlCells_length : ∀ l, (rlCells l).length = l.length * 6
  | [] => rfl
  | r :: l => by rw [rlCells, List.length_append, rlCells_length l, show (r :: l).length = l.length + 1 from rfl, Nat.succ_mul, Nat.add_comm]; rfl
theorem fcCells_length : ∀ l, (fcCells l).length = l.length * 2
  | [] => rfl
  | r :: l => by rw [fcCells, List.length_append, fcCells_length l, show (r :: l).length = l.length + 1 from rfl, Nat.succ_mul, Nat.add_comm]; rfl
theorem rlCells_append : ∀ l m, rlCells (l ++ m) = rlCells l ++ rlCells m
  | [], m => rfl
  | r :: l, m => by rw [List.cons_append, rlCells, rlCells, rlCells_append l m, List.append_assoc]
theorem fcCells_append : ∀ l m, fcCells (l ++ m) = fcCells l ++ fcCells m
  | [], m => rfl
  | r :: l, m => by rw [List.cons_append, fcCells, fcCells, fcCells_append l m, List.append_assoc]
theorem rlCells_get : ∀ (l : List Rl) (i : Nat) (r : Rl), l[i]? = some r → ∀ (j : Nat) (u : Value), r.cells[j]? = some u → (rlCells l)[i * 6 + j]? = some u
  | [], _, _, h, _, _, _ => by cases h
  | x :: l, 0, r, h, j, u, hu => by
    simp only [List.getElem?_cons_zero, Option.some.injEq] at h
    subst h
    have hj : j < x.cells.length := by
      rcases Nat.lt_or_ge j x.cells.length with h | h
      · exact h
      · rw [List.getElem?_eq_none h] at hu; cases hu
    rw [rlCells, Nat.zero_mul, Nat.zero_add, List.getElem?_append_left hj]
    exact hu
  | x :: l, i + 1, r, h, j, u, hu => by
    rw [List.getElem?_cons_succ] at h
    rw [rlCells, List.getElem?_append_right (by show 6 ≤ _; omega), show (i + 1) * 6 + j - x.cells.length = i * 6 + j from by show (i + 1) * 6 + j - 6 = _; omega]
    exact rlCells_get l i r h j u hu

/-- Where a maker lies. -/
structure Mk where
  mb : Nat
  mo : Nat
  fb : Nat
  bw : Nat
  rb : Nat → Nat
  bb : Nat
  vb : Nat
  P : Nat
  K : Nat
def Mk.N (M : Mk) : Nat := M.P * M.K
def semFp (M : Mk) (vr : Nat → Value) (vq : Value) : Nat → Prop := fun k =>
  k = M.mb ∨ k = M.mo ∨ famFp M.fb M.bw M.rb M.N k ∨ k = M.bb ∨ k = M.vb ∨ (∃ i, i < M.N + M.K ∧ (vr i).ownBlock = some k) ∨ vq.ownBlock = some k
def mkObj (M : Mk) (vq : Value) : Obj := .cells #[.pointer (some ⟨M.mo, 0, none⟩), .slice (some ⟨M.bb, 0, none⟩) M.N M.N, .slice (some ⟨M.vb, 0, none⟩) M.K M.K, vq] 85 (0, 0)
def moObj (M : Mk) (steps : Nat) : Obj := .cells #[.pointer (some ⟨M.fb, 0, none⟩), .int .i64 M.P, .int .i64 M.K, .int .i64 steps] 64 (0, 0)
structure SemMem (W : World) (M : Mk) (vr : Nat → Value) (L : Nat → List Rl) (In : Nat → Nat → Bool) (tot steps : Nat) (vq : Value) (q : List (Nat × Nat)) : Prop where
  mko : W.heap[M.mb]? = some (mkObj M vq)
  moo : W.heap[M.mo]? = some (moObj M steps)
  fam : FamMem W M.fb M.bw M.rb M.N M.P In tot
  byo : W.heap[M.bb]? = some (.cells (fnRow vr M.N) 38 (0, 0))
  vio : W.heap[M.vb]? = some (.cells (fnRow (fun v => vr (M.N + v)) M.K) 38 (0, 0))
  rows : ∀ i, i < M.N + M.K → TailRow W 29 6 (vr i) (L i).length (rlCells (L i))
  inj : ∀ i j, i < M.N + M.K → j < M.N + M.K → ∀ g, (vr i).ownBlock = some g → (vr j).ownBlock = some g → i = j
  que : TailRow W 88 2 vq q.length (fcCells q)
  hP : M.P ≤ 64
  hK : M.K ≤ 64
  bv : M.bb ≠ M.vb
theorem ne_of_type {W : World} {a b : Nat} {c1 c2 : Array Value} {t1 t2 : TypeId} {f1 f2 : Nat × Nat} (h1 : W.heap[a]? = some (.cells c1 t1 f1)) (h2 : W.heap[b]? = some (.cells c2 t2 f2)) (h : t1 ≠ t2) : a ≠ b := fun e => by
  subst e
  rw [h1] at h2
  simp only [Option.some.injEq, Obj.cells.injEq] at h2
  exact h h2.2.1
theorem famFp_type {W : World} {b bw : Nat} {rb : Nat → Nat} {R C : Nat} {In : Nat → Nat → Bool} {tot : Nat} (h : FamMem W b bw rb R C In tot) {k : Nat} (hk : famFp b bw rb R k) : ∃ c t, W.heap[k]? = some (.cells c t (0, 0)) ∧ (t = 75 ∨ t = 76 ∨ t = 91) := by
  rcases hk with rfl | rfl | ⟨i, hi, rfl⟩
  · exact ⟨_, _, h.obj, .inl rfl⟩
  · obtain ⟨F, h1, _⟩ := h.rows
    exact ⟨_, _, h1, .inr (.inl rfl)⟩
  · obtain ⟨cur, h1, _⟩ := h.row i hi
    exact ⟨_, _, h1, .inr (.inr rfl)⟩
theorem famFp_ne {W : World} {b bw : Nat} {rb : Nat → Nat} {R C : Nat} {In : Nat → Nat → Bool} {tot : Nat} (h : FamMem W b bw rb R C In tot) {x : Nat} {c2 : Array Value} {t2 : TypeId} {f2 : Nat × Nat} (h2 : W.heap[x]? = some (.cells c2 t2 f2)) (n1 : t2 ≠ 75) (n2 : t2 ≠ 76) (n3 : t2 ≠ 91) : ¬ famFp b bw rb R x := fun hk => by
  obtain ⟨c, t, hc, ht⟩ := famFp_type h hk
  rw [hc] at h2
  simp only [Option.some.injEq, Obj.cells.injEq] at h2
  rcases ht with rfl | rfl | rfl
  · exact n1 h2.2.1.symm
  · exact n2 h2.2.1.symm
  · exact n3 h2.2.1.symm
section
variable {W : World} {M : Mk} {vr : Nat → Value} {L : Nat → List Rl} {In : Nat → Nat → Bool} {tot steps : Nat} {vq : Value} {q : List (Nat × Nat)}
theorem SemMem.lt (h : SemMem W M vr L In tot steps vq q) : ∀ k, semFp M vr vq k → k < W.heap.size := by
  rintro k (rfl | rfl | hk | rfl | rfl | ⟨i, hi, hk⟩ | hk)
  · exact lt_of_heap h.mko
  · exact lt_of_heap h.moo
  · exact h.fam.lt k hk
  · exact lt_of_heap h.byo
  · exact lt_of_heap h.vio
  · obtain ⟨c, hc⟩ := (h.rows i hi).lt k hk; exact lt_of_heap hc
  · obtain ⟨c, hc⟩ := h.que.lt k hk; exact lt_of_heap hc
theorem SemMem.keeps (h : SemMem W M vr L In tot steps vq q) {S : Nat → Prop} {W' : World} (hk : Keeps S W W') (hs : ∀ k, semFp M vr vq k → ¬ S k) : SemMem W' M vr L In tot steps vq q :=
  ⟨(hk.block _ (lt_of_heap h.mko) (hs _ (.inl rfl))).trans h.mko, (hk.block _ (lt_of_heap h.moo) (hs _ (.inr (.inl rfl)))).trans h.moo,
    h.fam.keeps hk (fun k x => hs _ (.inr (.inr (.inl x)))), (hk.block _ (lt_of_heap h.byo) (hs _ (.inr (.inr (.inr (.inl rfl)))))).trans h.byo,
    (hk.block _ (lt_of_heap h.vio) (hs _ (.inr (.inr (.inr (.inr (.inl rfl))))))).trans h.vio,
    fun i hi => (h.rows i hi).keeps hk (fun k x => hs _ (.inr (.inr (.inr (.inr (.inr (.inl ⟨i, hi, x⟩))))))), h.inj,
    h.que.keeps hk (fun k x => hs _ (.inr (.inr (.inr (.inr (.inr (.inr x))))))), h.hP, h.hK, h.bv⟩
theorem SemMem.setSteps (h : SemMem W M vr L In tot steps vq q) (s : Nat) : SemMem (W.setCell ⟨M.mo, 3, none⟩ (.int .i64 s)) M vr L In tot s vq q := by
  have hk := Keeps.setCell (S := fun k => k = M.mo) (Keeps.refl _ W) (p := ⟨M.mo, 3, none⟩) (fun _ => rfl) (.int .i64 (s : Int))
  have hm := h.moo
  unfold moObj at hm
  exact ⟨(hk.block _ (lt_of_heap h.mko) (ne_of_type h.mko hm (by decide))).trans h.mko, heap_set hm 3 _,
    h.fam.keeps hk (fun k x e => by subst e; exact famFp_ne h.fam hm (by decide) (by decide) (by decide) x),
    (hk.block _ (lt_of_heap h.byo) (ne_of_type h.byo hm (by decide))).trans h.byo, (hk.block _ (lt_of_heap h.vio) (ne_of_type h.vio hm (by decide))).trans h.vio,
    fun i hi => (h.rows i hi).keeps hk (fun k x e => by subst e; exact (h.rows i hi).type hm (by decide) x), h.inj,
    h.que.keeps hk (fun k x e => by subst e; exact h.que.type hm (by decide) x), h.hP, h.hK, h.bv⟩
theorem SemMem.setFam (h : SemMem W M vr L In tot steps vq q) {W' : World} {In2 : Nat → Nat → Bool} {tot2 : Nat} (hf : FamMem W' M.fb M.bw M.rb M.N M.P In2 tot2) (hk : Keeps (famFp M.fb M.bw M.rb M.N) W W') : SemMem W' M vr L In2 tot2 steps vq q := by
  exact ⟨(hk.block _ (lt_of_heap h.mko) (famFp_ne h.fam h.mko (by decide) (by decide) (by decide))).trans h.mko, (hk.block _ (lt_of_heap h.moo) (famFp_ne h.fam h.moo (by decide) (by decide) (by decide))).trans h.moo,
    hf, (hk.block _ (lt_of_heap h.byo) (famFp_ne h.fam h.byo (by decide) (by decide) (by decide))).trans h.byo, (hk.block _ (lt_of_heap h.vio) (famFp_ne h.fam h.vio (by decide) (by decide) (by decide))).trans h.vio,
    fun i hi => (h.rows i hi).keeps hk (fun k x => by obtain ⟨c, hc⟩ := (h.rows i hi).lt k x; exact famFp_ne h.fam hc (by decide) (by decide) (by decide)), h.inj,
    h.que.keeps hk (fun k x => by obtain ⟨c, hc⟩ := h.que.lt k x; exact famFp_ne h.fam hc (by decide) (by decide) (by decide)), h.hP, h.hK, h.bv⟩
theorem SemMem.setQueue (h : SemMem W M vr L In tot steps vq q) {W' : World} {vq' : Value} {q' : List (Nat × Nat)} (hq : TailRow W' 88 2 vq' q'.length (fcCells q')) (hk : Keeps (fun k => vq.ownBlock = some k) W W') :
    SemMem (W'.setCell ⟨M.mb, 3, none⟩ vq') M vr L In tot steps vq' q' := by
  have hown : ∀ (k : Nat) (c : Array Value) (t : TypeId) (f : Nat × Nat), W.heap[k]? = some (.cells c t f) → t ≠ 88 → W'.heap[k]? = W.heap[k]? := fun k c t f hc ht => hk.block k (lt_of_heap hc) (h.que.type hc ht)
  have hm := (hown _ _ _ _ h.mko (by decide)).trans h.mko
  unfold mkObj at hm
  have h2 := Keeps.setCell (S := fun k => k = M.mb) (Keeps.refl _ W') (p := ⟨M.mb, 3, none⟩) (fun _ => rfl) vq'
  have hoth : ∀ (k : Nat) (c : Array Value) (t : TypeId) (f : Nat × Nat), W.heap[k]? = some (.cells c t f) → t ≠ 88 → t ≠ 85 → (W'.setCell ⟨M.mb, 3, none⟩ vq').heap[k]? = some (.cells c t f) := fun k c t f hc ht ht2 => by
    have h1 := (hown k c t f hc ht).trans hc
    exact (h2.block k (lt_of_heap h1) (ne_of_type h1 hm ht2)).trans h1
  have hk2 : ∀ (k : Nat) (c : Array Value) (t : TypeId) (f : Nat × Nat), W.heap[k]? = some (.cells c t f) → t ≠ 88 → t ≠ 85 → (W'.setCell ⟨M.mb, 3, none⟩ vq').heap[k]? = W.heap[k]? := fun k c t f hc ht ht2 => (hoth k c t f hc ht ht2).trans hc.symm
  have hf := h.fam
  refine ⟨heap_set hm 3 _, hoth _ _ _ _ h.moo (by decide) (by decide), ⟨hoth _ _ _ _ hf.obj (by decide) (by decide), hf.rows.imp (fun F h1 => ⟨hoth _ _ _ _ h1.1 (by decide) (by decide), h1.2⟩), fun i hi => (hf.row i hi).imp (fun cur h1 => ⟨hoth _ _ _ _ h1.1 (by decide) (by decide), h1.2⟩), hf.inj, hf.out, hf.hR, hf.hC⟩,
    hoth _ _ _ _ h.byo (by decide) (by decide), hoth _ _ _ _ h.vio (by decide) (by decide), fun i hi => ?_, h.inj, hq.keeps h2 (fun k x e => by subst e; exact hq.type hm (by decide) x), h.hP, h.hK, h.bv⟩
  obtain ⟨l, r⟩ := h.rows i hi
  refine ⟨l, r.imp id ?_⟩
  rintro ⟨g, k, cap, cur, hv, hh, r⟩
  exact ⟨g, k, cap, cur, hv, hoth _ _ _ _ hh (by decide) (by decide), r⟩
end
end Go.Proofs.YtaabmkebbnkonaaDoor
