/-
  The document's sets: all pairs that are in.
-/
import Derived.Test.YtmljmpjpdgijlaaDoorSetList
import Derived.Test.YtmljmpjpdgijlaaDoorSetNew
set_option linter.unusedVariables false
set_option linter.unusedSimpArgs false
set_option linter.unnecessarySimpa false
namespace Go.Proofs.YtmljmpjpdgijlaaDoor
open Go.ChangeShapes Go.WideShapes Go.ChangeAt Go.RowKit Go.Deep SetPlain

/-- Is a pair among the first n? -/
def pB (L : Nat → Int × Int) (x : Int × Int) : Nat → Bool
  | 0 => false
  | n + 1 => pB L x n || decide (L n = x)
theorem pB_iff (L : Nat → Int × Int) (x : Int × Int) : ∀ n, pB L x n = true ↔ ∃ j, j < n ∧ L j = x
  | 0 => ⟨fun h => (by cases h), fun ⟨j, h, _⟩ => absurd h (Nat.not_lt_zero _)⟩
  | n + 1 => by
    unfold pB
    rw [Bool.or_eq_true, pB_iff L x n, decide_eq_true_eq]
    constructor
    · rintro (⟨j, h1, h2⟩ | h)
      · exact ⟨j, by omega, h2⟩
      · exact ⟨n, by omega, h⟩
    · rintro ⟨j, h1, h2⟩
      rcases Nat.lt_or_ge j n with h | h
      · exact .inl ⟨j, h, h2⟩
      · obtain rfl : j = n := by omega
        exact .inr h2
theorem pB_false (L : Nat → Int × Int) (x : Int × Int) (n : Nat) : pB L x n = false ↔ ∀ j, j < n → L j ≠ x := by
  cases h : pB L x n with
  | true =>
    constructor
    · intro h; cases h
    · intro g
      obtain ⟨j, h1, h2⟩ := (pB_iff L x n).1 h
      exact absurd h2 (g j h1)
  | false =>
    refine ⟨fun _ j hj e => ?_, fun _ => rfl⟩
    rw [(pB_iff L x n).2 ⟨j, hj, e⟩] at h; cases h
def addP (L : Nat → Int × Int) (n : Nat) (x : Int × Int) : Nat → Int × Int := fun j => if j = n then x else L j
theorem pB_congr (L L' : Nat → Int × Int) (x : Int × Int) : ∀ n, (∀ j, j < n → L j = L' j) → pB L x n = pB L' x n
  | 0, _ => rfl
  | n + 1, h => by unfold pB; rw [pB_congr L L' x n (fun j hj => h j (by omega)), h n (by omega)]
theorem pB_add (L : Nat → Int × Int) (n : Nat) (x y : Int × Int) : pB (addP L n y) x (n + 1) = (pB L x n || decide (y = x)) := by
  show (pB (addP L n y) x n || decide (addP L n y n = x)) = _
  rw [pB_congr (addP L n y) L x n (fun j hj => by unfold addP; rw [if_neg (by omega)])]
  unfold addP; rw [if_pos rfl]

def prCells (x : Int × Int) : List Value := [.int .i64 x.1, .int .i64 x.2]
def prRow (L : Nat → Int × Int) : Nat → List Value
  | 0 => []
  | n + 1 => prRow L n ++ prCells (L n)
theorem prRow_len (L : Nat → Int × Int) : ∀ n, (prRow L n).length = n * 2
  | 0 => rfl
  | n + 1 => by simp [prRow, prRow_len L n, prCells]; omega
theorem prRow_congr (L L' : Nat → Int × Int) : ∀ n, (∀ j, j < n → L j = L' j) → prRow L n = prRow L' n
  | 0, _ => rfl
  | n + 1, h => by unfold prRow; rw [prRow_congr L L' n (fun j hj => h j (by omega)), h n (by omega)]
theorem prRow_get (L : Nat → Int × Int) (i : Nat) (hi : i < 2) : ∀ n j, j < n → (prRow L n)[j * 2 + i]? = (prCells (L j))[i]?
  | 0, j, h => absurd h (Nat.not_lt_zero _)
  | n + 1, j, h => by
    unfold prRow
    rcases Nat.lt_or_ge j n with h1 | h1
    · rw [List.getElem?_append_left (by rw [prRow_len]; omega)]
      exact prRow_get L i hi n j h1
    · obtain rfl : j = n := by omega
      rw [List.getElem?_append_right (by rw [prRow_len]; omega), prRow_len]
      congr 1; omega
theorem prRow_add (L : Nat → Int × Int) (n : Nat) (x : Int × Int) : prRow (addP L n x) (n + 1) = prRow L n ++ prCells x := by
  show prRow (addP L n x) n ++ prCells (addP L n x n) = _
  rw [prRow_congr (addP L n x) L n (fun j hj => by simp [addP]; omega)]
  simp [addP]

def rfObj (R C : Nat) (vn : Value) : Obj := .cells #[.int .i64 R, .int .i64 C, vn] 31 (0, 0)
structure RfMem (w : World) (r : Nat) (vn : Value) (R C : Nat) (L : Nat → Int × Int) (n : Nat) : Prop where
  obj : w.heap[r]? = some (rfObj R C vn)
  pairs : w.ownsRow 0 27 2 vn n (prRow L n)
def rfFp (r : Nat) (vn : Value) : Nat → Prop := fun k => k = r ∨ vn.ownBlock = some k
section
variable {w : World} {r : Nat} {vn : Value} {R C : Nat} {L : Nat → Int × Int} {n : Nat}
theorem RfMem.keeps {w' : World} (h : RfMem w r vn R C L n) {S : Nat → Prop} (hk : Keeps S w w') (hs : ∀ k, rfFp r vn k → ¬ S k) : RfMem w' r vn R C L n :=
  ⟨(hk.block r (lt_of_heap h.obj) (hs r (.inl rfl))).trans h.obj, ownsRow_keeps' h.pairs hk (fun k hk' => hs k (.inr hk'))⟩
theorem RfMem.lt (h : RfMem w r vn R C L n) : ∀ k, rfFp r vn k → k < w.heap.size := by
  intro k hk
  rcases hk with rfl | hk
  · exact lt_of_heap h.obj
  · exact own_lt h.pairs k hk
theorem RfMem.ne (h : RfMem w r vn R C L n) : vn.ownBlock ≠ some r := by
  intro e
  have := own_type h.pairs e h.obj
  revert this; decide
theorem RfMem.row (h : RfMem w r vn R C L n) :
    ∃ ao cap, vn = .slice ao n cap ∧ n ≤ cap ∧ cap ≤ maxLen ∧ (0 < n → ∃ g, ao = some ⟨g, 0, none⟩ ∧ g < w.heap.size ∧ ∀ j, j < n → w.cell? ⟨g, j * 2, none⟩ = some (.int .i64 (L j).1) ∧ w.cell? ⟨g, j * 2 + 1, none⟩ = some (.int .i64 (L j).2)) := by
  obtain ⟨ao, cap, hv, hle, hm, hnone, hold⟩ := own_form h.pairs
  refine ⟨ao, cap, hv, hle, hm, fun h0 => ?_⟩
  cases ao with
  | none => have := hnone rfl; omega
  | some a =>
    obtain ⟨h4, h5, h6, _, h7⟩ := hold a rfl
    obtain ⟨bb, off, sp⟩ := a
    simp only at h4 h5 h6 h7
    subst h4; subst h5
    refine ⟨bb, rfl, h6, fun j hj => ⟨?_, ?_⟩⟩
    · exact h7 (j * 2) _ ((prRow_get L 0 (by omega) n j hj).trans rfl)
    · exact h7 (j * 2 + 1) _ ((prRow_get L 1 (by omega) n j hj).trans rfl)

def RfNewPost (R C : Nat) (w : World) (e : Ending) (w' : World) : Prop :=
  e = .returned (.pointer (some ⟨w.heap.size, 0, none⟩)) ∧ RfMem w' w.heap.size (.slice none 0 0) R C (fun _ => default) 0 ∧ Below w.heap.size w w'
set_option maxRecDepth 10000 in
set_option maxHeartbeats 800000 in
theorem rfnew_spec (rows cols : Int) (R C : Nat) (hR : Within rows 5000 R) (hC : Within cols 1000 C) (w : World) : Calls Tryd.prog 8 #[.int .i64 rows, .int .i64 cols] w (RfNewPost R C w) := by
  have hx : ∀ W, (W = w.alloc (rfObj R C (.slice none 0 0))) → RfNewPost R C w (.returned (.pointer (some ⟨w.heap.size, 0, none⟩))) W := by
    intro W hW
    subst hW
    exact ⟨rfl, ⟨heap_alloc_new w _, World.ownsRow_nil _ _ _ _⟩, (Below.refl _ _).alloc (Nat.le_refl _) _⟩
  have Hx := Lib.hid hx; clear hx
  rcases hR with ⟨h1, rfl⟩ | ⟨h1, h2, h3⟩ | ⟨h1, rfl⟩ <;> rcases hC with ⟨h4, rfl⟩ | ⟨h4, h5, h6⟩ | ⟨h4, rfl⟩
  all_goals (try subst h3)
  all_goals (try subst h6)
  all_goals
    go_enter Tryd.func8, Tryd.ntmps8
    go_wp2
    go_ret
    exact Hx.out _ rfl

set_option maxRecDepth 10000 in
set_option maxHeartbeats 800000 in
theorem rfhas_spec (h : RfMem w r vn R C L n) (hn : n ≤ 1000000000) (i c : Int) : Calls Tryd.prog 12 #[.pointer (some ⟨r, 0, none⟩), .int .i64 i, .int .i64 c] w fun e w' => e = .returned (.bool (pB L (i, c) n)) ∧ Below w.heap.size w w' := by
  obtain ⟨ao, cap, rfl, hle, hmx, hrow⟩ := h.row
  have c2 : w.cell? ⟨r, 2, none⟩ = some (.slice ao n cap) := by rw [cell_of_heap h.obj]; rfl
  have HR := Lib.hid hrow
  obtain ⟨res, hres⟩ : ∃ res, pB L (i, c) n = res := ⟨_, rfl⟩
  rw [hres]
  have Hres := Lib.hid hres
  clear h hrow hres
  go_enter Tryd.func12, Tryd.ntmps12
  go_wp2_with fail
  go_loopg [14] n (fun g s wr => ∃ k : Nat, k ≤ n ∧ g = n - k ∧ s = .int .i64 k ∧ Hid (pB L (i, c) k = false) ∧ Hid (Below w.heap.size w wr))
  case atStart => exact ⟨0, Nat.zero_le _, rfl, rfl, rfl, Below.refl _ _⟩
  case round =>
    clear c2
    obtain ⟨k, hk, rfl, rfl, hp, hb⟩ := hrel
    by_cases hlt : k < n
    · obtain ⟨g, rfl, hg, hcells⟩ := HR.out (by omega)
      obtain ⟨r0, r1⟩ := hcells k hlt
      rw [← hb.out.cell (p := ⟨g, _, none⟩) hg] at r0 r1
      have hkI : (k : Int) < (n : Int) := by omega
      have hba : Hid (∀ o, Below w.heap.size w (wr.alloc o)) := fun o => hb.out.alloc hb.out.size o
      by_cases hx : L k = (i, c)
      · have hr : res = true := by rw [← Hres.out]; exact (pB_iff L (i, c) n).2 ⟨k, hlt, hx⟩
        rw [hx] at r0 r1
        simp only [] at r0 r1
        clear Hres hcells hx
        subst hr
        go_wp2
        go_ret
        exact ⟨rfl, hba.out _⟩
      · have hp2 : Hid (pB L (i, c) (k + 1) = false) := by
          show (pB L (i, c) k || decide (L k = (i, c))) = false
          rw [hp.out]; simp [hx]
        by_cases h1 : (L k).1 = i
        · have h2 : ((L k).2 == c) = false := by
            simp only [beq_eq_false_iff_ne]
            intro e; exact hx (Prod.ext h1 e)
          rw [h1] at r0
          generalize (L k).2 = y at r1 h2
          clear hcells hx h1
          go_wp2_with fail
          go_roundg (n - (k + 1))
          case measure => omega
          case rel => exact ⟨k + 1, by omega, rfl, by go_num, hp2.out, hba.out _⟩
        · have h2 : ((L k).1 == i) = false := by simpa using h1
          generalize (L k).1 = x at r0 h2
          generalize (L k).2 = y at r1
          clear hcells hx h1
          go_wp2_with fail
          go_roundg (n - (k + 1))
          case measure => omega
          case rel => exact ⟨k + 1, by omega, rfl, by go_num, hp2.out, hba.out _⟩
    · obtain rfl : k = n := by omega
      have hr : res = false := by rw [← Hres.out]; exact hp.out
      clear Hres
      subst hr
      go_wp2
      go_ret
      exact ⟨rfl, hb.out⟩
end
end Go.Proofs.YtmljmpjpdgijlaaDoor
