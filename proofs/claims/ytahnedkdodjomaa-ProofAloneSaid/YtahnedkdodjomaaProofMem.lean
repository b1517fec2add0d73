/-
  What was proved, in memory: its fields, the map of facts, the row of steps.
-/
import Derived.Test.YtahnedkdodjomaaRefEval
import Derived.Maps.OwnSet
import Derived.Maps.OwnOps
import Derived.Maps.Views
import Derived.DeepKeys4
set_option linter.unusedVariables false
set_option linter.unusedSimpArgs false
set_option linter.unnecessarySimpa false
namespace Go.Proofs.Ytahnedkdodjomaa
open Go.ChangeShapes Go.WideShapes Go.ChangeAt Go.RowKit Go.Deep SetPlain
/-- A step by its numbers. -/
structure Sp where
  rule : Int
  role : Int
  who : Int
  mid : Int
deriving DecidableEq
def Sp.cells (s : Sp) : List Value := [.int .i64 s.rule, .int .i64 s.role, .int .i64 s.who, .int .i64 s.mid]
def spCells : List Sp → List Value
  | [] => []
  | r :: l => r.cells ++ spCells l
theorem spCells_length : ∀ l, (spCells l).length = l.length * 4
  | [] => rfl
  | r :: l => by rw [spCells, List.length_append, spCells_length l, show (r :: l).length = l.length + 1 from rfl, Nat.succ_mul, Nat.add_comm]; rfl
theorem spCells_append : ∀ l m, spCells (l ++ m) = spCells l ++ spCells m
  | [], m => rfl
  | r :: l, m => by rw [List.cons_append, spCells, spCells, spCells_append l m, List.append_assoc]
theorem spCells_get : ∀ (l : List Sp) (i : Nat) (r : Sp), l[i]? = some r → ∀ (j : Nat) (u : Value), r.cells[j]? = some u → (spCells l)[i * 4 + j]? = some u
  | [], _, _, h, _, _, _ => by cases h
  | x :: l, 0, r, h, j, u, hu => by
    simp only [List.getElem?_cons_zero, Option.some.injEq] at h
    subst h
    have hj : j < x.cells.length := by
      rcases Nat.lt_or_ge j x.cells.length with h | h
      · exact h
      · rw [List.getElem?_eq_none h] at hu; cases hu
    rw [spCells, Nat.zero_mul, Nat.zero_add, List.getElem?_append_left hj]
    exact hu
  | x :: l, i + 1, r, h, j, u, hu => by
    rw [List.getElem?_cons_succ] at h
    rw [spCells, List.getElem?_append_right (by show 4 ≤ _; omega), show (i + 1) * 4 + j - x.cells.length = i * 4 + j from by show (i + 1) * 4 + j - 4 = _; omega]
    exact spCells_get l i r h j u hu
/-- The first step that proves a fact. -/
def atF : List Sp → Int → Int → Option Nat
  | [], _, _ => none
  | s :: l, a, b => if s.role = a ∧ s.who = b then some 0 else (atF l a b).map (· + 1)
theorem atF_snoc : ∀ (l : List Sp) (s : Sp) (a b : Int), atF (l ++ [s]) a b = (match atF l a b with | some i => some i | none => if s.role = a ∧ s.who = b then some l.length else none)
  | [], s, a, b => by
    show atF [s] a b = _
    unfold atF
    split <;> rfl
  | x :: l, s, a, b => by
    show (if _ then _ else (atF (l ++ [s]) a b).map (· + 1)) = _
    rw [atF_snoc l s a b]
    show _ = (match (if x.role = a ∧ x.who = b then some 0 else (atF l a b).map (· + 1)) with | some i => some i | none => if s.role = a ∧ s.who = b then some (l.length + 1) else none)
    by_cases h : x.role = a ∧ x.who = b
    · rw [if_pos h, if_pos h]
    · rw [if_neg h, if_neg h]
      cases atF l a b with
      | some i => rfl
      | none => by_cases h2 : s.role = a ∧ s.who = b
                · rw [if_pos h2, if_pos h2]; rfl
                · rw [if_neg h2, if_neg h2]; rfl
theorem atF_some : ∀ {l : List Sp} {a b : Int} {i : Nat}, atF l a b = some i → ∃ s, l[i]? = some s ∧ s.role = a ∧ s.who = b
  | [], _, _, _, h => by cases h
  | x :: l, a, b, i, h => by
    unfold atF at h
    by_cases hx : x.role = a ∧ x.who = b
    · rw [if_pos hx] at h; cases h; exact ⟨x, rfl, hx⟩
    · rw [if_neg hx] at h
      cases hl : atF l a b with
      | none => rw [hl] at h; cases h
      | some j =>
        rw [hl] at h; cases h
        obtain ⟨s, h1, h2⟩ := atF_some hl
        exact ⟨s, h1, h2⟩
theorem atF_lt {l : List Sp} {a b : Int} {i : Nat} (h : atF l a b = some i) : i < l.length := by
  obtain ⟨s, h1, _⟩ := atF_some h
  rcases Nat.lt_or_ge i l.length with h | h
  · exact h
  · rw [List.getElem?_eq_none h] at h1; cases h1
theorem atF_none : ∀ {l : List Sp} {a b : Int}, atF l a b = none → ∀ s, s ∈ l → ¬ (s.role = a ∧ s.who = b)
  | [], _, _, _, _, h => (by cases h)
  | x :: l, a, b, h, s, hs => by
    unfold atF at h
    by_cases hx : x.role = a ∧ x.who = b
    · rw [if_pos hx] at h; cases h
    · rw [if_neg hx, Option.map_eq_none_iff] at h
      rcases List.mem_cons.1 hs with rfl | hs
      · exact hx
      · exact atF_none h s hs
theorem atF_isSome {l : List Sp} {a b : Int} {s : Sp} (h : s ∈ l) (ha : s.role = a) (hb : s.who = b) : (atF l a b).isSome = true := by
  cases hx : atF l a b with
  | some i => rfl
  | none => exact absurd ⟨ha, hb⟩ (atF_none hx s h)
def atN (l : List Sp) (a b : Int) : Nat := (atF l a b).getD 0

/-! the key -/
def fkey (a b : Int) : Lit := .string (keyBytes [.int .i64 a, .int .i64 b])
theorem wf_i64 {a : Int} (h : I64 a) : (Lit.int .i64 a).wf = true := by
  unfold I64 at h
  simp only [Lit.wf, IntKind.min, IntKind.max, IntKind.signed, IntKind.bits, Bool.and_eq_true, decide_eq_true_eq, if_true]
  omega
theorem kn_laid : laidOutB Try.prog = true := by kernel_rfl
theorem fact_law : WideMaps.KeyLaw Try.prog 57 := deep_law_laid kn_laid (m := 2) (by omega) (of_decide_eq_true (by kernel_rfl)) (by kernel_rfl) (by rw [Try.underlying57])
theorem fact_keyed : Go.Maps.Keyed Try.prog 57 := Go.Maps.Keyed.of_law fact_law
theorem fact_type : Try.prog.keyType 57 = true := by kernel_rfl
theorem fact_size : Try.prog.cellsOf 57 = 2 := by kernel_rfl
theorem int_cells : Try.prog.cellsOf 3 = 1 := by kernel_rfl
theorem types_some : ∃ m, Try.prog.types.size = m + 1 := ⟨Try.prog.types.size - 1, by have : 0 < Try.prog.types.size := of_decide_eq_true (by kernel_rfl); omega⟩
theorem fact_key {a b : Int} (ha : I64 a) (hb : I64 b) : keyOf Try.prog 57 (.agg #[.int .i64 a, .int .i64 b]) = some (fkey a b) := by
  obtain ⟨m, hm⟩ := types_some
  unfold keyOf fkey
  simp only [Try.underlying57]
  rw [if_pos (by simp [fact_type, Value.formed, Try.underlying57, fact_size]), hm]
  unfold Program.keyLits
  simp only [Try.underlying57, Value.cells]
  rw [if_pos (by rw [fact_size]; exact ⟨rfl, by simp⟩)]
  simp [int_cells, Program.keyLits, Try.underlying3, wf_i64 ha, wf_i64 hb]
theorem fkey_ne {a b c d : Int} (ha : I64 a) (hb : I64 b) (hc : I64 c) (hd : I64 d) (h : ¬ (a = c ∧ b = d)) : fkey a b ≠ fkey c d := fun e => h (by
  have h1 := fact_key ha hb
  rw [e] at h1
  have h2 := fact_keyed.inj h1 (fact_key hc hd)
  simp at h2
  exact h2)
theorem fkey_key (a b : Int) : WideAt.IsKeyLit (fkey a b) := trivial

/-- The map of facts reads as the steps say. -/
def KnMap (W : World) (mb : Nat) (l : List Sp) : Prop := ∃ D : DataW Unit, W.ownsMap Try.prog 57 (plainElem (H := Unit) Try.prog 3) mb l.length D ∧
  ∀ a b, I64 a → I64 b → Maps.has D (fkey a b) = (atF l a b).isSome ∧ D.atKey (fkey a b) (.lit (.int .i64 0)) = .lit (.int .i64 (atN l a b : Int))
theorem KnMap.keeps {W W' : World} {mb : Nat} {l : List Sp} {S : Nat → Prop} (h : KnMap W mb l) (hk : Keeps S W W') (hs : ¬ S mb) : KnMap W' mb l := by
  obtain ⟨D, h1, h2⟩ := h
  obtain ⟨es, clock, hb, r⟩ := h1
  exact ⟨D, ⟨es, clock, (hk.block mb (lt_of_heap hb) hs).trans hb, r⟩, h2⟩
theorem KnMap.zero (W : World) : KnMap (W.alloc (.map #[] 0)) W.heap.size [] := ⟨_, World.ownsMap_made _ _ _ _, fun a b _ _ => ⟨rfl, by simp [DataW.atKey, atN, atF]⟩⟩
theorem KnMap.obj {W : World} {mb : Nat} {l : List Sp} (h : KnMap W mb l) : ∃ es clock, W.heap[mb]? = some (.map es clock) := by
  obtain ⟨D, ⟨es, clock, hb, _⟩, _⟩ := h
  exact ⟨es, clock, hb⟩
theorem KnMap.ne {W : World} {mb : Nat} {l : List Sp} (h : KnMap W mb l) {x : Nat} {c : Array Value} {t : TypeId} {f : Nat × Nat} (hx : W.heap[x]? = some (.cells c t f)) : mb ≠ x := fun e => by
  subst e
  obtain ⟨es, clock, hb⟩ := h.obj
  rw [hb] at hx
  cases hx
/-- What a store leaves. -/
theorem KnMap.put {W' : World} {mb : Nat} {l : List Sp} {s : Sp} {D : DataW Unit} (hr : I64 s.role) (hw : I64 s.who) (hn : atF l s.role s.who = none)
    (h : ∀ a b, I64 a → I64 b → Maps.has D (fkey a b) = (atF l a b).isSome ∧ D.atKey (fkey a b) (.lit (.int .i64 0)) = .lit (.int .i64 (atN l a b : Int))) (hD : Maps.IsMap D)
    (ho : W'.ownsMap Try.prog 57 (plainElem (H := Unit) Try.prog 3) mb (l.length + 1) (D.put (fkey s.role s.who) (.lit (.int .i64 (l.length : Int))))) : KnMap W' mb (l ++ [s]) := by
  refine ⟨_, by rw [List.length_append]; exact ho, fun a b ha hb => ?_⟩
  unfold atN
  rw [atF_snoc]
  by_cases he : s.role = a ∧ s.who = b
  · obtain ⟨rfl, rfl⟩ := he
    rw [hn, Maps.has_put_same hD (fkey_key _ _), Maps.atKey_put_same hD (fkey_key _ _)]
    simp
  · have hne : fkey a b ≠ fkey s.role s.who := fkey_ne ha hb hr hw (fun e => he ⟨e.1.symm, e.2.symm⟩)
    obtain ⟨h1, h2⟩ := h a b ha hb
    rw [Maps.has_put_other hne, Maps.atKey_put_other hne, h1, h2]
    unfold atN
    cases atF l a b with
    | some i => exact ⟨rfl, rfl⟩
    | none => simp [he]

/-- Where what was proved lies, and what it is. -/
structure KnMem (W : World) (kb : Nat) (p k : Int) (ao : Option Addr) (n cap mb : Nat) (vs : Value) (l : List Sp) : Prop where
  obj : W.heap[kb]? = some (.cells #[.int .i64 p, .int .i64 k, .slice ao n cap, .map (some mb), vs] 55 (0, 0))
  map : KnMap W mb l
  row : TailRow W 30 4 vs l.length (spCells l)
def knFp (kb mb : Nat) (vs : Value) : Nat → Prop := fun x => x = kb ∨ x = mb ∨ vs.ownBlock = some x
section
variable {W : World} {kb : Nat} {p k : Int} {ao : Option Addr} {n cap mb : Nat} {vs : Value} {l : List Sp}
theorem KnMem.keeps (h : KnMem W kb p k ao n cap mb vs l) {S : Nat → Prop} {W' : World} (hk : Keeps S W W') (hs : ∀ x, knFp kb mb vs x → ¬ S x) : KnMem W' kb p k ao n cap mb vs l :=
  ⟨(hk.block _ (lt_of_heap h.obj) (hs _ (.inl rfl))).trans h.obj, h.map.keeps hk (hs _ (.inr (.inl rfl))), h.row.keeps hk (fun x hx => hs _ (.inr (.inr hx)))⟩
theorem KnMem.quiet (h : KnMem W kb p k ao n cap mb vs l) {W' : World} (hk : Keeps (fun _ => False) W W') : KnMem W' kb p k ao n cap mb vs l := h.keeps hk (fun _ _ x => x)
theorem KnMem.lt (h : KnMem W kb p k ao n cap mb vs l) : ∀ x, knFp kb mb vs x → x < W.heap.size := by
  rintro x (rfl | rfl | hx)
  · exact lt_of_heap h.obj
  · obtain ⟨_, _, hb⟩ := h.map.obj; exact lt_of_heap hb
  · obtain ⟨c, hc⟩ := h.row.lt x hx; exact lt_of_heap hc
theorem KnMem.cells (h : KnMem W kb p k ao n cap mb vs l) : W.cell? ⟨kb, 0, none⟩ = some (.int .i64 p) ∧ W.cell? ⟨kb, 1, none⟩ = some (.int .i64 k) ∧ W.cell? ⟨kb, 2, none⟩ = some (.slice ao n cap) ∧ W.cell? ⟨kb, 3, none⟩ = some (.map (some mb)) ∧ W.cell? ⟨kb, 4, none⟩ = some vs := by
  refine ⟨?_, ?_, ?_, ?_, ?_⟩ <;> rw [cell_of_heap h.obj] <;> rfl
end
set_option maxRecDepth 100000 in
/-- has: was it proved? -/
theorem khas_spec {W : World} {kb : Nat} {p k : Int} {ao : Option Addr} {n cap mb : Nat} {vs : Value} {l : List Sp} (h : KnMem W kb p k ao n cap mb vs l) {a b : Int} (ha : I64 a) (hb : I64 b) :
    Calls Try.prog 45 #[.pointer (some ⟨kb, 0, none⟩), .int .i64 a, .int .i64 b] W fun e W' => e = .returned (.bool (atF l a b).isSome) ∧ Below W.heap.size W W' := by
  obtain ⟨c0, c1, c2, c3, c4⟩ := h.cells
  obtain ⟨D, hown, hD⟩ := h.map
  obtain ⟨hhas, _⟩ := hD a b ha hb
  have hkey := fact_key ha hb
  clear h hD
  go_enter Try.func45, Try.ntmps45
  go_wp2_with (at_lookup; refine wpList_lookup_own_ok_int _ rfl _ _ 53 rfl 57 3 .i64 fact_keyed Try.underlying53 Try.underlying3 (by kernel_rfl) mb l.length D rfl hown _ _ rfl hkey ?_; intro c hat hwc; rw [hhas])
  go_ret
  exact ⟨rfl, Below.refl _ _⟩
end Go.Proofs.Ytahnedkdodjomaa
