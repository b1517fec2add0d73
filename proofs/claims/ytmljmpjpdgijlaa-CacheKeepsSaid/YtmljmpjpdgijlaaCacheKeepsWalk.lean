/-
  The walk of the law CacheKeeps.
-/
import Derived.Test.YtmljmpjpdgijlaaCacheLast
import Derived.Deep.LoopGhost
import Derived.Test.YtmljmpjpdgijlaaCacheClear
namespace Go.Proofs.Ytmljmpjpdgijlaa
open Go.RowKit Go.Deep

/-- What was put last in a place, among the first n. -/
def lastSl (sl : CKey → Nat) (A : Nat → CKey × Int) (s : Nat) : Nat → Option (CKey × Int)
  | 0 => none
  | n + 1 => if sl (A n).1 = s then some (A n) else lastSl sl A s n
theorem lastSl_congr (sl : CKey → Nat) (A B : Nat → CKey × Int) (s : Nat) : ∀ n, (∀ j, j < n → A j = B j) → lastSl sl A s n = lastSl sl B s n
  | 0, _ => rfl
  | n + 1, h => by unfold lastSl; rw [h n (by omega), lastSl_congr sl A B s n (fun j hj => h j (by omega))]
theorem look_some (sl : CKey → Nat) (A : Nat → CKey × Int) (key : CKey) (x : Int) : ∀ n, lookAt (lastSl sl A (sl key) n) key = some x → lastTo A key n = some x
  | 0, h => by simp [lastSl, lookAt] at h
  | n + 1, h => by
    unfold lastSl at h
    unfold lastTo
    by_cases hk : (A n).1 = key
    · rw [if_pos hk]
      rw [if_pos (by rw [hk])] at h
      simp only [lookAt, hk, if_true] at h
      exact h
    · rw [if_neg hk]
      by_cases hs : sl (A n).1 = sl key
      · rw [if_pos hs] at h
        simp only [lookAt] at h
        rw [if_neg hk] at h
        cases h
      · rw [if_neg hs] at h
        exact look_some sl A key x n h
theorem look_none (sl : CKey → Nat) (A : Nat → CKey × Int) (key : CKey) (n : Nat) (h : lookAt (lastSl sl A (sl key) (n + 1)) key = none) : ¬ (A n).1 = key := by
  intro hk
  unfold lastSl at h
  rw [if_pos (by rw [hk])] at h
  simp [lookAt, hk] at h
def slK (N : Nat) : CKey → Nat := fun k => slotOf N k.1 k.2.1 k.2.2.1 k.2.2.2

def putCells (p : CKey × Int) : List Value := [.int .i64 p.1.1, .int .i64 p.1.2.1, .int .i64 p.1.2.2.1, .int .i64 p.1.2.2.2, .int .i64 p.2]
def cellsTo (A : Nat → CKey × Int) : Nat → List Value
  | 0 => []
  | n + 1 => cellsTo A n ++ putCells (A n)
theorem cellsTo_len (A : Nat → CKey × Int) : ∀ n, (cellsTo A n).length = n * 5
  | 0 => rfl
  | n + 1 => by simp [cellsTo, cellsTo_len A n, putCells]; omega
theorem cellsTo_congr (A B : Nat → CKey × Int) : ∀ n, (∀ j, j < n → A j = B j) → cellsTo A n = cellsTo B n
  | 0, _ => rfl
  | n + 1, h => by unfold cellsTo; rw [cellsTo_congr A B n (fun j hj => h j (by omega)), h n (by omega)]
theorem cellsTo_get (A : Nat → CKey × Int) (i : Nat) (hi : i < 5) : ∀ n j, j < n → (cellsTo A n)[j * 5 + i]? = (putCells (A j))[i]?
  | 0, j, h => absurd h (Nat.not_lt_zero _)
  | n + 1, j, h => by
    unfold cellsTo
    rcases Nat.lt_or_ge j n with h1 | h1
    · rw [List.getElem?_append_left (by rw [cellsTo_len]; omega)]
      exact cellsTo_get A i hi n j h1
    · obtain rfl : j = n := by omega
      rw [List.getElem?_append_right (by rw [cellsTo_len]; omega), cellsTo_len]
      congr 1; omega

abbrev PutOwn (w : World) (base : Nat) (v : Value) (n : Nat) (A : Nat → CKey × Int) : Prop := w.ownsRow base 44 5 v n (cellsTo A n)

theorem PutOwn.form {w : World} {base : Nat} {v : Value} {n : Nat} {A : Nat → CKey × Int} (h : PutOwn w base v n A) :
    ∃ ao cap, v = .slice ao n cap ∧ n ≤ cap ∧ cap ≤ maxLen ∧ (0 < n → ∃ g, ao = some ⟨g, 0, none⟩ ∧ base ≤ g ∧ g < w.heap.size ∧ PutRow w g n A) := by
  obtain ⟨_, ⟨rfl, rfl⟩ | ⟨g, cap, cur, rfl, hb, hh, hle, hm, hs, ht⟩⟩ := h
  · exact ⟨none, 0, rfl, Nat.le_refl _, by unfold maxLen; omega, fun h => absurd h (by omega)⟩
  · refine ⟨_, cap, rfl, hle, hm, fun _ => ⟨g, rfl, hb, lt_of_heap hh, fun j hj => ?_⟩⟩
    have key : ∀ i, i < 5 → w.cell? ⟨g, j * 5 + i, none⟩ = (putCells (A j))[i]? := fun i hi => by
      rw [cell_of_heap hh, ← cellsTo_get A i hi n j hj, ← ht, List.getElem?_take_of_lt (by omega), Array.getElem?_toList]
    exact ⟨key 0 (by omega), key 1 (by omega), key 2 (by omega), key 3 (by omega), key 4 (by omega)⟩

theorem ownsRow_keeps {w w' : World} {base e size : Nat} {v : Value} {n : Nat} {xs : List Value} {S : Nat → Prop} (h : w.ownsRow base e size v n xs) (hk : Keeps S w w') (hs : ∀ k, S k → k < base) : w'.ownsRow base e size v n xs := by
  obtain ⟨h1, h2 | ⟨g, cap, cur, hv, hg, hh, r⟩⟩ := h
  · exact ⟨h1, .inl h2⟩
  · exact ⟨h1, .inr ⟨g, cap, cur, hv, hg, (hk.block g (lt_of_heap hh) (fun s => by have := hs g s; omega)).trans hh, r⟩⟩
theorem CacheAt.alloc {w : World} {b bp n : Nat} {hits : Int} {F : Nat → Option (CKey × Int)} (h : CacheAt w b bp n hits F) (o : Obj) : CacheAt (w.alloc o) b bp n hits F :=
  h.keeps (S := fun _ => False) ((Keeps.refl _ _).alloc o) (fun x => x) (fun x => x)

/-- The things that are done. -/
theorem IsRow.ops {w : World} {ao : Option Addr} {n cap : Nat} {G : Nat → Nat → Value} (R : IsRow w [.int .u64, .int .i64, .int .i64, .int .i64, .int .i64, .int .i64] ao n cap G) :
    ∃ (Kd : Nat → Int) (A : Nat → CKey × Int), (∀ i, i < n → 0 ≤ Kd i) ∧ (0 < n → ∃ b off, ao = some ⟨b, off, none⟩ ∧ b < w.heap.size ∧ ∀ i, i < n → w.cell? ⟨b, off + i * 6, none⟩ = some (.int .u64 (Kd i)) ∧
      w.cell? ⟨b, off + i * 6 + 1, none⟩ = some (.int .i64 (A i).1.1) ∧ w.cell? ⟨b, off + i * 6 + 2, none⟩ = some (.int .i64 (A i).1.2.1) ∧ w.cell? ⟨b, off + i * 6 + 3, none⟩ = some (.int .i64 (A i).1.2.2.1) ∧
      w.cell? ⟨b, off + i * 6 + 4, none⟩ = some (.int .i64 (A i).1.2.2.2) ∧ w.cell? ⟨b, off + i * 6 + 5, none⟩ = some (.int .i64 (A i).2)) := by
  have key : ∀ i, i < n → ∃ p : Int × CKey × Int, G i 0 = .int .u64 p.1 ∧ 0 ≤ p.1 ∧ G i 1 = .int .i64 p.2.1.1 ∧ G i 2 = .int .i64 p.2.1.2.1 ∧ G i 3 = .int .i64 p.2.1.2.2.1 ∧ G i 4 = .int .i64 p.2.1.2.2.2 ∧ G i 5 = .int .i64 p.2.2 := fun i hi => by
    obtain ⟨z0, h0, h0'⟩ := R.ok i 0 _ hi rfl
    obtain ⟨z1, h1, _⟩ := R.ok i 1 _ hi rfl
    obtain ⟨z2, h2, _⟩ := R.ok i 2 _ hi rfl
    obtain ⟨z3, h3, _⟩ := R.ok i 3 _ hi rfl
    obtain ⟨z4, h4, _⟩ := R.ok i 4 _ hi rfl
    obtain ⟨z5, h5, _⟩ := R.ok i 5 _ hi rfl
    exact ⟨(z0, (z1, z2, z3, z4), z5), h0, (bounds_u64 h0').1, h1, h2, h3, h4, h5⟩
  obtain ⟨f, hf⟩ := choose_lt key
  refine ⟨fun i => (f i).1, fun i => (f i).2, fun i hi => (hf i hi).2.1, fun h0 => ?_⟩
  obtain ⟨b, off, h1, h2, h3⟩ := R.at_ h0
  refine ⟨b, off, h1, h2, fun i hi => ?_⟩
  obtain ⟨g0, _, g1, g2, g3, g4, g5⟩ := hf i hi
  have e := fun j (hj : j < 6) => h3 i j hi hj
  rw [← g0, ← g1, ← g2, ← g3, ← g4, ← g5]
  exact ⟨e 0 (by omega), e 1 (by omega), e 2 (by omega), e 3 (by omega), e 4 (by omega), e 5 (by omega)⟩

theorem last_own {base : Nat} {ao : Option Addr} {n cap : Nat} {A : Nat → CKey × Int} (k0 k1 k2 k3 : Int) (W : World) (hn : n ≤ 100) (h : PutOwn W base (.slice ao n cap) n A) :
    Calls Try.prog 19 #[.slice ao n cap, .agg #[.int .i64 k0, .int .i64 k1, .int .i64 k2, .int .i64 k3]] W (LastPost A (k0, k1, k2, k3) n W) := by
  obtain ⟨ao', cap', hv, _, _, hr⟩ := h.form
  cases hv
  exact last_any ao n cap k0 k1 k2 k3 A W hn (fun h0 => by obtain ⟨g, h1, _, h2, h3⟩ := hr h0; exact ⟨g, h1, h2, h3⟩)
/-- The cells of two new blocks, behind a callee that wrote elsewhere. -/
theorem new_cell2 {wr w2 : World} {S : Nat → Prop} {c1 c2 : Array Value} {t1 t2 : TypeId} (hk : Keeps S ((wr.alloc (.cells c1 t1)).alloc (.cells c2 t2)) w2) (hs : ∀ k, S k → k < wr.heap.size) :
    (∀ o, w2.cell? ⟨wr.heap.size, o, none⟩ = c1[o]?) ∧ (∀ o, w2.cell? ⟨wr.heap.size + 1, o, none⟩ = c2[o]?) ∧ wr.heap.size + 2 ≤ w2.heap.size := by
  refine ⟨fun o => ?_, fun o => ?_, ?_⟩
  · rw [hk.cell (p := ⟨wr.heap.size, o, none⟩) (by simp; omega) (fun h => Nat.lt_irrefl _ (hs _ h))]
    simp
  · rw [hk.cell (p := ⟨wr.heap.size + 1, o, none⟩) (by simp) (fun h => by have := hs _ h; simp only at this; omega)]
    exact World.cell?_alloc_at _ _ _ _ (by simp)
  · have := hk.size; simpa using this
/-- One more is put behind the others. -/
def addTo (A : Nat → CKey × Int) (n : Nat) (p : CKey × Int) : Nat → CKey × Int := fun j => if j = n then p else A j
theorem cellsTo_add (A : Nat → CKey × Int) (n : Nat) (p : CKey × Int) : cellsTo (addTo A n p) (n + 1) = cellsTo A n ++ putCells p := by
  show cellsTo (addTo A n p) n ++ putCells (addTo A n p n) = _
  rw [cellsTo_congr (addTo A n p) A n (fun j hj => by simp [addTo]; omega)]
  simp [addTo]
theorem link_add {N n : Nat} {A : Nat → CKey × Int} {F : Nat → Option (CKey × Int)} (h : ∀ s, F s = lastSl (slK N) A s n) (k0 k1 k2 k3 x : Int) (s : Nat) :
    keep N F k0 k1 k2 k3 x s = lastSl (slK N) (addTo A n ((k0, k1, k2, k3), x)) s (n + 1) := by
  have e : addTo A n ((k0, k1, k2, k3), x) n = ((k0, k1, k2, k3), x) := by simp [addTo]
  unfold lastSl
  rw [e, lastSl_congr (slK N) (addTo A n ((k0, k1, k2, k3), x)) A s n (fun j hj => by simp [addTo]; omega)]
  show (if s = slotOf N k0 k1 k2 k3 then some ((k0, k1, k2, k3), x) else F s) = if slotOf N k0 k1 k2 k3 = s then _ else _
  by_cases hs : s = slotOf N k0 k1 k2 k3
  · rw [if_pos hs, if_pos hs.symm]
  · rw [if_neg hs, if_neg (fun h => hs h.symm), h s]
end Go.Proofs.Ytmljmpjpdgijlaa
