/-
  The rule of a place that may be.
-/
import Derived.Test.YtahnedkdodjomaaProofMem
import Derived.Deep.RegionHeld3
set_option linter.unusedVariables false
set_option linter.unusedSimpArgs false
set_option linter.unnecessarySimpa false
namespace Go.Proofs.Ytahnedkdodjomaa
open Go.ChangeShapes Go.WideShapes Go.ChangeAt Go.RowKit Go.Deep SetPlain
def Rl.zero : Rl := ⟨0, 0, 0, 0, 0, 0⟩
/-- The rule of a place, and may it be? -/
def ruleAt (p k : Int) (rs : List Rl) (i : Int) : Rl × Bool := if 0 ≤ i ∧ i < rs.length then (rs[i.toNat]?.getD Rl.zero, rightB p k (rs[i.toNat]?.getD Rl.zero)) else (Rl.zero, false)
def RulePost (r : Rl) (b : Bool) (W : World) (e : Ending) (W' : World) : Prop := e = .returned (.tuple #[.agg r.cells.toArray, .bool b]) ∧ Below W.heap.size W W'
set_option maxRecDepth 100000 in
theorem rule_low {W : World} {kb : Nat} {p k : Int} {ao : Option Addr} {n cap mb : Nat} {vs : Value} {l : List Sp} (h : KnMem W kb p k ao n cap mb vs l) (i : Int) (hi : ¬ (0 ≤ i ∧ i < n)) :
    Calls Try.prog 33 #[.pointer (some ⟨kb, 0, none⟩), .int .i64 i] W (RulePost Rl.zero false W) := by
  obtain ⟨c0, c1, c2, c3, c4⟩ := h.cells
  have lk := lt_of_heap h.obj
  clear h
  by_cases h0 : i < 0
  · go_enter Try.func33, Try.ntmps33
    go_wp2
    refine bodyPost_ret (v := .tuple #[.agg Rl.zero.cells.toArray, .bool false]) (by simp [results, Try.results33, go_sem, Rl.zero, Rl.cells]) rfl ⟨rfl, ?_⟩
    exact (Below.refl _ _).alloc (Nat.le_refl _) _
  · have h1 : (n : Int) ≤ i := by omega
    clear hi
    go_enter Try.func33, Try.ntmps33
    go_wp2
    refine bodyPost_ret (v := .tuple #[.agg Rl.zero.cells.toArray, .bool false]) (by simp [results, Try.results33, go_sem, Rl.zero, Rl.cells]) rfl ⟨rfl, ?_⟩
    exact (Below.refl _ _).alloc (Nat.le_refl _) _
/-- A rule is stored. -/
def put6 (w : World) (x : Nat) (r : Rl) : World := (((((w.setCell ⟨x, 0, none⟩ (.int .i64 r.kind)).setCell ⟨x, 1, none⟩ (.int .i64 r.head)).setCell ⟨x, 2, none⟩ (.int .i64 r.who)).setCell ⟨x, 3, none⟩ (.int .i64 r.a)).setCell ⟨x, 4, none⟩ (.int .i64 r.b)).setCell ⟨x, 5, none⟩ (.int .i64 r.via)
theorem put6_spec {w : World} {x : Nat} (h : w.heap[x]? = some (.cells #[.int .i64 0, .int .i64 0, .int .i64 0, .int .i64 0, .int .i64 0, .int .i64 0] 39 (0, 0))) (r : Rl) :
    (put6 w x r).heap[x]? = some (.cells r.cells.toArray 39 (0, 0)) ∧ Keeps (fun y => y = x) w (put6 w x r) := by
  refine ⟨heap_set (heap_set (heap_set (heap_set (heap_set (heap_set h 0 _) 1 _) 2 _) 3 _) 4 _) 5 _, ?_⟩
  have k : ∀ (w0 : World) (i : Nat) (v : Value), Keeps (fun y => y = x) w w0 → Keeps (fun y => y = x) w (w0.setCell ⟨x, i, none⟩ v) := fun w0 i v h0 => h0.setCell (p := ⟨x, i, none⟩) (fun _ => rfl) v
  exact k _ _ _ (k _ _ _ (k _ _ _ (k _ _ _ (k _ _ _ (k _ _ _ (Keeps.refl _ _))))))
set_option maxRecDepth 100000 in
theorem rule_in {W : World} {kb : Nat} {p k : Int} (hp : p ≤ 64) (hk : k ≤ 64) {b off n cap mb : Nat} {vs : Value} {l : List Sp} (h : KnMem W kb p k (some ⟨b, off, none⟩) n cap mb vs l) (i : Nat) (hi : i < n) (hcap : n ≤ cap) (r : Rl) (hb : b < W.heap.size)
    (hc : W.cell? ⟨b, off + i * 6, none⟩ = some (.int .i64 r.kind) ∧ W.cell? ⟨b, off + i * 6 + 1, none⟩ = some (.int .i64 r.head) ∧ W.cell? ⟨b, off + i * 6 + 2, none⟩ = some (.int .i64 r.who) ∧ W.cell? ⟨b, off + i * 6 + 3, none⟩ = some (.int .i64 r.a) ∧ W.cell? ⟨b, off + i * 6 + 4, none⟩ = some (.int .i64 r.b) ∧ W.cell? ⟨b, off + i * 6 + 5, none⟩ = some (.int .i64 r.via)) :
    Calls Try.prog 33 #[.pointer (some ⟨kb, 0, none⟩), .int .i64 i] W (RulePost r (rightB p k r) W) := by
  obtain ⟨c0, c1, c2, c3, c4⟩ := h.cells
  have lk := lt_of_heap h.obj
  obtain ⟨kind, head, who, a, b2, via⟩ := r
  obtain ⟨r0, r1, r2, r3, r4, r5⟩ := hc
  have hR := right_spec
  obtain ⟨v, hv⟩ : ∃ v, rightB p k ⟨kind, head, who, a, b2, via⟩ = v := ⟨_, rfl⟩
  rw [hv]
  have HR : Hid (∀ W', Calls Try.prog 46 #[.int .i64 p, .int .i64 k, .agg #[.int .i64 kind, .int .i64 head, .int .i64 who, .int .i64 a, .int .i64 b2, .int .i64 via]] W' (RightPost v W')) := fun W' => by
    have := right_spec W' p k ⟨kind, head, who, a, b2, via⟩
    rw [hv] at this
    exact this
  clear h hR hv
  go_enter Try.func33, Try.ntmps33
  go_upto_region 3 with fail
  have ck : ∀ j, (W.alloc (.cells #[.int .i64 0, .int .i64 0, .int .i64 0, .int .i64 0, .int .i64 0, .int .i64 0] 39)).cell? ⟨kb, j, none⟩ = W.cell? ⟨kb, j, none⟩ := fun j => World.cell?_alloc_past _ _ _ lk
  have cb : ∀ j, (W.alloc (.cells #[.int .i64 0, .int .i64 0, .int .i64 0, .int .i64 0, .int .i64 0, .int .i64 0] 39)).cell? ⟨b, j, none⟩ = W.cell? ⟨b, j, none⟩ := fun j => World.cell?_alloc_past _ _ _ hb
  have H0 : (fun w' => w'.cell? ⟨kb, 0, none⟩ = some (.int .i64 p) ∧ w'.cell? ⟨kb, 1, none⟩ = some (.int .i64 k) ∧ w'.cell? ⟨kb, 2, none⟩ = some (.slice (some ⟨b, off, none⟩) n cap) ∧ w'.cell? ⟨b, off + i * 6, none⟩ = some (.int .i64 kind) ∧ w'.cell? ⟨b, off + i * 6 + 1, none⟩ = some (.int .i64 head) ∧ w'.cell? ⟨b, off + i * 6 + 2, none⟩ = some (.int .i64 who) ∧ w'.cell? ⟨b, off + i * 6 + 3, none⟩ = some (.int .i64 a) ∧ w'.cell? ⟨b, off + i * 6 + 4, none⟩ = some (.int .i64 b2) ∧ w'.cell? ⟨b, off + i * 6 + 5, none⟩ = some (.int .i64 via)) (W.alloc (.cells #[.int .i64 0, .int .i64 0, .int .i64 0, .int .i64 0, .int .i64 0, .int .i64 0] 39)) := ⟨(ck _).trans c0, (ck _).trans c1, (ck _).trans c2, (cb _).trans r0, (cb _).trans r1, (cb _).trans r2, (cb _).trans r3, (cb _).trans r4, (cb _).trans r5⟩
  have hal : (W.alloc (.cells #[.int .i64 0, .int .i64 0, .int .i64 0, .int .i64 0, .int .i64 0, .int .i64 0] 39)).heap[W.heap.size]? = some (.cells #[.int .i64 0, .int .i64 0, .int .i64 0, .int .i64 0, .int .i64 0, .int .i64 0] 39) := (MapKept.heap_alloc W _).1
  have HA : Hid (∀ wA, Below (W.alloc (.cells #[.int .i64 0, .int .i64 0, .int .i64 0, .int .i64 0, .int .i64 0, .int .i64 0] 39)).drew.heap.size (W.alloc (.cells #[.int .i64 0, .int .i64 0, .int .i64 0, .int .i64 0, .int .i64 0, .int .i64 0] 39)).drew wA → (fun w' => w'.cell? ⟨kb, 0, none⟩ = some (.int .i64 p) ∧ w'.cell? ⟨kb, 1, none⟩ = some (.int .i64 k) ∧ w'.cell? ⟨kb, 2, none⟩ = some (.slice (some ⟨b, off, none⟩) n cap) ∧ w'.cell? ⟨b, off + i * 6, none⟩ = some (.int .i64 kind) ∧ w'.cell? ⟨b, off + i * 6 + 1, none⟩ = some (.int .i64 head) ∧ w'.cell? ⟨b, off + i * 6 + 2, none⟩ = some (.int .i64 who) ∧ w'.cell? ⟨b, off + i * 6 + 3, none⟩ = some (.int .i64 a) ∧ w'.cell? ⟨b, off + i * 6 + 4, none⟩ = some (.int .i64 b2) ∧ w'.cell? ⟨b, off + i * 6 + 5, none⟩ = some (.int .i64 via)) wA ∧ Hid (Keeps (fun _ => False) W wA) ∧ wA.heap[W.heap.size]? = some (.cells #[.int .i64 0, .int .i64 0, .int .i64 0, .int .i64 0, .int .i64 0, .int .i64 0] 39) ∧ (∀ j, wA.frozen? ⟨W.heap.size, j, none⟩ = false) ∧ wA.cell? ⟨W.heap.size, 0, none⟩ = some (.int .i64 0) ∧ wA.cell? ⟨W.heap.size, 1, none⟩ = some (.int .i64 0) ∧ wA.cell? ⟨W.heap.size, 2, none⟩ = some (.int .i64 0) ∧ wA.cell? ⟨W.heap.size, 3, none⟩ = some (.int .i64 0) ∧ wA.cell? ⟨W.heap.size, 4, none⟩ = some (.int .i64 0) ∧ wA.cell? ⟨W.heap.size, 5, none⟩ = some (.int .i64 0)) := fun wA hb2 => by
    have hk2 := Keeps.of_below (S := fun _ => False) hb2 (Nat.le_refl _)
    have l1 : kb < (W.alloc (.cells #[.int .i64 0, .int .i64 0, .int .i64 0, .int .i64 0, .int .i64 0, .int .i64 0] 39)).heap.size := by simp; omega
    have l2 : b < (W.alloc (.cells #[.int .i64 0, .int .i64 0, .int .i64 0, .int .i64 0, .int .i64 0, .int .i64 0] 39)).heap.size := by simp; omega
    have e1 : ∀ j, wA.cell? ⟨kb, j, none⟩ = _ := fun j => hk2.cell (p := ⟨kb, j, none⟩) l1 (fun x => x)
    have e2 : ∀ j, wA.cell? ⟨b, j, none⟩ = _ := fun j => hk2.cell (p := ⟨b, j, none⟩) l2 (fun x => x)
    have hz : wA.heap[W.heap.size]? = _ := (hk2.block _ (lt_of_heap (w := (W.alloc (.cells #[.int .i64 0, .int .i64 0, .int .i64 0, .int .i64 0, .int .i64 0, .int .i64 0] 39))) hal) (fun x => x)).trans hal
    obtain ⟨q0, q1, q2, q3, q4, q5, q6, q7, q8⟩ := H0
    refine ⟨⟨(e1 _).trans q0, (e1 _).trans q1, (e1 _).trans q2, (e2 _).trans q3, (e2 _).trans q4, (e2 _).trans q5, (e2 _).trans q6, (e2 _).trans q7, (e2 _).trans q8⟩, (((Keeps.refl _ _).alloc _).drew).trans hk2, hz, fun j => free_of_heap hz j, ?_, ?_, ?_, ?_, ?_, ?_⟩ <;> rw [cell_of_heap hz] <;> rfl
  have HB : Hid (∀ wA, (fun w' => w'.cell? ⟨kb, 0, none⟩ = some (.int .i64 p) ∧ w'.cell? ⟨kb, 1, none⟩ = some (.int .i64 k) ∧ w'.cell? ⟨kb, 2, none⟩ = some (.slice (some ⟨b, off, none⟩) n cap) ∧ w'.cell? ⟨b, off + i * 6, none⟩ = some (.int .i64 kind) ∧ w'.cell? ⟨b, off + i * 6 + 1, none⟩ = some (.int .i64 head) ∧ w'.cell? ⟨b, off + i * 6 + 2, none⟩ = some (.int .i64 who) ∧ w'.cell? ⟨b, off + i * 6 + 3, none⟩ = some (.int .i64 a) ∧ w'.cell? ⟨b, off + i * 6 + 4, none⟩ = some (.int .i64 b2) ∧ w'.cell? ⟨b, off + i * 6 + 5, none⟩ = some (.int .i64 via)) wA → Hid (Keeps (fun _ => False) W wA) → wA.heap[W.heap.size]? = some (.cells #[.int .i64 0, .int .i64 0, .int .i64 0, .int .i64 0, .int .i64 0, .int .i64 0] 39) → (fun w' => w'.cell? ⟨kb, 0, none⟩ = some (.int .i64 p) ∧ w'.cell? ⟨kb, 1, none⟩ = some (.int .i64 k) ∧ w'.cell? ⟨kb, 2, none⟩ = some (.slice (some ⟨b, off, none⟩) n cap) ∧ w'.cell? ⟨b, off + i * 6, none⟩ = some (.int .i64 kind) ∧ w'.cell? ⟨b, off + i * 6 + 1, none⟩ = some (.int .i64 head) ∧ w'.cell? ⟨b, off + i * 6 + 2, none⟩ = some (.int .i64 who) ∧ w'.cell? ⟨b, off + i * 6 + 3, none⟩ = some (.int .i64 a) ∧ w'.cell? ⟨b, off + i * 6 + 4, none⟩ = some (.int .i64 b2) ∧ w'.cell? ⟨b, off + i * 6 + 5, none⟩ = some (.int .i64 via)) (put6 wA W.heap.size ⟨kind, head, who, a, b2, via⟩) ∧ Hid (Below W.heap.size W (put6 wA W.heap.size ⟨kind, head, who, a, b2, via⟩) ∧ (put6 wA W.heap.size ⟨kind, head, who, a, b2, via⟩).heap[W.heap.size]? = some (.cells #[.int .i64 kind, .int .i64 head, .int .i64 who, .int .i64 a, .int .i64 b2, .int .i64 via] 39))) := fun wA hS hk hz => by
    obtain ⟨h1, h2⟩ := put6_spec hz ⟨kind, head, who, a, b2, via⟩
    have hs := hk.out.size
    have e1 : ∀ j, (put6 wA W.heap.size ⟨kind, head, who, a, b2, via⟩).cell? ⟨kb, j, none⟩ = wA.cell? ⟨kb, j, none⟩ := fun j => h2.cell (p := ⟨kb, j, none⟩) (by show kb < _; omega) (by show kb ≠ _; omega)
    have e2 : ∀ j, (put6 wA W.heap.size ⟨kind, head, who, a, b2, via⟩).cell? ⟨b, j, none⟩ = wA.cell? ⟨b, j, none⟩ := fun j => h2.cell (p := ⟨b, j, none⟩) (by show b < _; omega) (by show b ≠ _; omega)
    obtain ⟨q0, q1, q2, q3, q4, q5, q6, q7, q8⟩ := hS
    exact ⟨⟨(e1 _).trans q0, (e1 _).trans q1, (e1 _).trans q2, (e2 _).trans q3, (e2 _).trans q4, (e2 _).trans q5, (e2 _).trans q6, (e2 _).trans q7, (e2 _).trans q8⟩, ((hk.out.below (Nat.le_refl _) (fun _ _ x => x)).trans (h2.below (B := W.heap.size) (by omega) (fun k hk e => by omega))), h1⟩
  refine wp_region_noPanic ?_
  refine wp_region_held_drew (S := (fun w' => w'.cell? ⟨kb, 0, none⟩ = some (.int .i64 p) ∧ w'.cell? ⟨kb, 1, none⟩ = some (.int .i64 k) ∧ w'.cell? ⟨kb, 2, none⟩ = some (.slice (some ⟨b, off, none⟩) n cap) ∧ w'.cell? ⟨b, off + i * 6, none⟩ = some (.int .i64 kind) ∧ w'.cell? ⟨b, off + i * 6 + 1, none⟩ = some (.int .i64 head) ∧ w'.cell? ⟨b, off + i * 6 + 2, none⟩ = some (.int .i64 who) ∧ w'.cell? ⟨b, off + i * 6 + 3, none⟩ = some (.int .i64 a) ∧ w'.cell? ⟨b, off + i * 6 + 4, none⟩ = some (.int .i64 b2) ∧ w'.cell? ⟨b, off + i * 6 + 5, none⟩ = some (.int .i64 via))) (by kernel_rfl) H0 (fun hHeld => ?_)
  refine wpAnyH_take_at (i := 0) (v := ?v0) rfl (by kernel_rfl) (by kernel_rfl) (by kernel_rfl) (fun _ _ _ h => h) (Or.inl ⟨by rfl, ?y0⟩) hHeld ?r0
  case y0 => (intro w hSw; (try dsimp only at hSw); go_simp; first | done | with_reducible rfl)
  (try simp only [Act.put, List.setIfInBounds_toArray, List.set_cons_zero, List.set_cons_succ])
  refine wpAnyH_take_at (i := 1) (v := ?v1) rfl (by kernel_rfl) (by kernel_rfl) (by kernel_rfl) (fun _ _ _ h => h) (Or.inl ⟨by rfl, ?y1⟩) hHeld ?r1
  case y1 => (intro w hSw; (try dsimp only at hSw); go_simp; first | done | with_reducible rfl)
  (try simp only [Act.put, List.setIfInBounds_toArray, List.set_cons_zero, List.set_cons_succ])
  refine wpAnyH_take_at (i := 2) (v := ?v2) rfl (by kernel_rfl) (by kernel_rfl) (by kernel_rfl) (fun _ _ _ h => h) (Or.inl ⟨by rfl, ?y2⟩) hHeld ?r2
  case y2 => (intro w hSw; (try dsimp only at hSw); go_simp; first | done | with_reducible rfl)
  (try simp only [Act.put, List.setIfInBounds_toArray, List.set_cons_zero, List.set_cons_succ])
  refine wpAnyH_take_at (i := 3) (v := ?v3) rfl (by kernel_rfl) (by kernel_rfl) (by kernel_rfl) (fun _ _ _ h => h) (Or.inl ⟨by rfl, ?y3⟩) hHeld ?r3
  case y3 => (intro w hSw; (try dsimp only at hSw); go_simp; first | done | with_reducible rfl)
  (try simp only [Act.put, List.setIfInBounds_toArray, List.set_cons_zero, List.set_cons_succ])
  refine wpAnyH_take_at (i := 4) (v := ?v4) rfl (by kernel_rfl) (by kernel_rfl) (by kernel_rfl) (fun _ _ _ h => h) (Or.inl ⟨by rfl, ?y4⟩) hHeld ?r4
  case y4 => (intro w hSw; (try dsimp only at hSw); go_simp; first | done | with_reducible rfl)
  (try simp only [Act.put, List.setIfInBounds_toArray, List.set_cons_zero, List.set_cons_succ])
  refine wpAnyH_take_at (i := 5) (v := ?v5) rfl (by kernel_rfl) (by kernel_rfl) (by kernel_rfl) (fun _ _ _ h => h) (Or.inl ⟨by rfl, ?y5⟩) hHeld ?r5
  case y5 => (intro w hSw; (try dsimp only at hSw); go_simp; first | done | with_reducible rfl)
  (try simp only [Act.put, List.setIfInBounds_toArray, List.set_cons_zero, List.set_cons_succ])
  refine wpAnyH_take_at (i := 6) (v := ?v6) rfl (by kernel_rfl) (by kernel_rfl) (by kernel_rfl) (fun _ _ _ h => h) (Or.inl ⟨by rfl, ?y6⟩) hHeld ?r6
  case y6 => (intro w hSw; (try dsimp only at hSw); go_simp; first | done | with_reducible rfl)
  (try simp only [Act.put, List.setIfInBounds_toArray, List.set_cons_zero, List.set_cons_succ])
  refine wpAnyH_take_at (i := 7) (v := ?v7) rfl (by kernel_rfl) (by kernel_rfl) (by kernel_rfl) (fun _ _ _ h => h) (Or.inl ⟨by rfl, ?y7⟩) hHeld ?r7
  case y7 => (intro w hSw; (try dsimp only at hSw); go_simp; first | done | with_reducible rfl)
  (try simp only [Act.put, List.setIfInBounds_toArray, List.set_cons_zero, List.set_cons_succ])
  refine wpAnyH_take_at (i := 8) (v := ?v8) rfl (by kernel_rfl) (by kernel_rfl) (by kernel_rfl) (fun _ _ _ h => h) (Or.inl ⟨by rfl, ?y8⟩) hHeld ?r8
  case y8 => (intro w hSw; (try dsimp only at hSw); go_simp; first | done | with_reducible rfl)
  (try simp only [Act.put, List.setIfInBounds_toArray, List.set_cons_zero, List.set_cons_succ])
  refine wpAnyH_take_at (i := 9) (v := ?v9) rfl (by kernel_rfl) (by kernel_rfl) (by kernel_rfl) (fun _ _ _ h => h) (Or.inl ⟨by rfl, ?y9⟩) hHeld ?r9
  case y9 => (intro w hSw; (try dsimp only at hSw); go_simp; first | done | with_reducible rfl)
  (try simp only [Act.put, List.setIfInBounds_toArray, List.set_cons_zero, List.set_cons_succ])
  refine wpAnyH_take_at (i := 10) (v := ?v10) rfl (by kernel_rfl) (by kernel_rfl) (by kernel_rfl) (fun _ _ _ h => h) (Or.inl ⟨by rfl, ?y10⟩) hHeld ?r10
  case y10 => (intro w hSw; (try dsimp only at hSw); go_simp; first | done | with_reducible rfl)
  (try simp only [Act.put, List.setIfInBounds_toArray, List.set_cons_zero, List.set_cons_succ])
  refine wpAnyH_take_at (i := 11) (v := ?v11) rfl (by kernel_rfl) (by kernel_rfl) (by kernel_rfl) (fun _ _ _ h => h) (Or.inl ⟨by rfl, ?y11⟩) hHeld ?r11
  case y11 => (intro w hSw; (try dsimp only at hSw); go_simp; first | done | with_reducible rfl)
  (try simp only [Act.put, List.setIfInBounds_toArray, List.set_cons_zero, List.set_cons_succ])
  refine wpAnyH_take_at (i := 12) (v := ?v12) rfl (by kernel_rfl) (by kernel_rfl) (by kernel_rfl) (fun _ _ _ h => h) (Or.inl ⟨by rfl, ?y12⟩) hHeld ?r12
  case y12 => (intro w hSw; (try dsimp only at hSw); go_simp; first | done | with_reducible rfl)
  (try simp only [Act.put, List.setIfInBounds_toArray, List.set_cons_zero, List.set_cons_succ])
  refine wpAnyH_take_at (i := 13) (v := ?v13) rfl (by kernel_rfl) (by kernel_rfl) (by kernel_rfl) (fun _ _ _ h => h) (Or.inl ⟨by rfl, ?y13⟩) hHeld ?r13
  case y13 => (intro w hSw; (try dsimp only at hSw); go_simp; first | done | with_reducible rfl)
  (try simp only [Act.put, List.setIfInBounds_toArray, List.set_cons_zero, List.set_cons_succ])
  refine wpAnyH_take_at (i := 14) (v := ?v14) rfl (by kernel_rfl) (by kernel_rfl) (by kernel_rfl) (fun _ _ _ h => h) (Or.inl ⟨by rfl, ?y14⟩) hHeld ?r14
  case y14 => (intro w hSw; (try dsimp only at hSw); go_simp; first | done | with_reducible rfl)
  (try simp only [Act.put, List.setIfInBounds_toArray, List.set_cons_zero, List.set_cons_succ])
  refine wpAnyH_take_at (i := 15) (v := ?v15) rfl (by kernel_rfl) (by kernel_rfl) (by kernel_rfl) (fun _ _ _ h => h) (Or.inl ⟨by rfl, ?y15⟩) hHeld ?r15
  case y15 => (intro w hSw; (try dsimp only at hSw); go_simp; first | done | with_reducible rfl)
  (try simp only [Act.put, List.setIfInBounds_toArray, List.set_cons_zero, List.set_cons_succ])
  refine wpAnyH_take_at (i := 16) (v := ?v16) rfl (by kernel_rfl) (by kernel_rfl) (by kernel_rfl) (fun _ _ _ h => h) (Or.inl ⟨by rfl, ?y16⟩) hHeld ?r16
  case y16 => (intro w hSw; (try dsimp only at hSw); go_simp; first | done | with_reducible rfl)
  (try simp only [Act.put, List.setIfInBounds_toArray, List.set_cons_zero, List.set_cons_succ])
  refine wpAnyH_take_at (i := 17) (v := ?v17) rfl (by kernel_rfl) (by kernel_rfl) (by kernel_rfl) (fun _ _ _ h => h) (Or.inl ⟨by rfl, ?y17⟩) hHeld ?r17
  case y17 => (intro w hSw; (try dsimp only at hSw); go_simp; first | done | with_reducible rfl)
  (try simp only [Act.put, List.setIfInBounds_toArray, List.set_cons_zero, List.set_cons_succ])
  refine wpAnyH_take_at (i := 18) (v := ?v18) rfl (by kernel_rfl) (by kernel_rfl) (by kernel_rfl) (fun _ _ _ h => h) (Or.inl ⟨by rfl, ?y18⟩) hHeld ?r18
  case y18 => (intro w hSw; (try dsimp only at hSw); go_simp; first | done | with_reducible rfl)
  (try simp only [Act.put, List.setIfInBounds_toArray, List.set_cons_zero, List.set_cons_succ])
  refine wpAnyH_take_at (i := 19) (v := ?v19) rfl (by kernel_rfl) (by kernel_rfl) (by kernel_rfl) (fun _ _ _ h => h) (Or.inl ⟨by rfl, ?y19⟩) hHeld ?r19
  case y19 => (intro w hSw; (try dsimp only at hSw); go_simp; first | done | with_reducible rfl)
  (try simp only [Act.put, List.setIfInBounds_toArray, List.set_cons_zero, List.set_cons_succ])
  refine wpAnyH_take_at (i := 20) (v := ?v20) rfl (by kernel_rfl) (by kernel_rfl) (by kernel_rfl) (fun _ _ _ h => h) (Or.inl ⟨by rfl, ?y20⟩) hHeld ?r20
  case y20 => (intro w hSw; (try dsimp only at hSw); go_simp; first | done | with_reducible rfl)
  (try simp only [Act.put, List.setIfInBounds_toArray, List.set_cons_zero, List.set_cons_succ])
  refine wpAnyH_take_at (i := 21) (v := ?v21) rfl (by kernel_rfl) (by kernel_rfl) (by kernel_rfl) (fun _ _ _ h => h) (Or.inl ⟨by rfl, ?y21⟩) hHeld ?r21
  case y21 => (intro w hSw; (try dsimp only at hSw); go_simp; first | done | with_reducible rfl)
  (try simp only [Act.put, List.setIfInBounds_toArray, List.set_cons_zero, List.set_cons_succ])
  refine wpAnyH_one (i := 22) (by kernel_rfl) rfl (fun K hK => ?_)
  go_simp
  refine (HR.out _).mono ?_
  rintro e wA ⟨rfl, hka⟩
  go_simp
  obtain ⟨HSA, HBA, hzA, hAf, hA0, hA1, hA2, hA3, hA4, hA5⟩ := HA.out _ hka
  clear hka
  refine hK.out _ _ ?s22 (fun hHeld => ?_)
  case s22 => exact HSA
  clear hK K
  (try simp only [Act.put, List.setIfInBounds_toArray, List.set_cons_zero, List.set_cons_succ])
  refine wpAnyH_one (i := 23) (by kernel_rfl) rfl (fun K hK => ?_)
  go_simp
  obtain ⟨HSB, HBB⟩ := HB.out wA HSA HBA hzA
  obtain ⟨wB, hwB⟩ : ∃ wB, put6 wA W.heap.size ⟨kind, head, who, a, b2, via⟩ = wB := ⟨_, rfl⟩
  rw [hwB] at HSB HBB
  rw [show ((((((wA.setCell ⟨W.heap.size, 0, none⟩ (.int .i64 kind)).setCell ⟨W.heap.size, 1, none⟩ (.int .i64 head)).setCell ⟨W.heap.size, 2, none⟩ (.int .i64 who)).setCell ⟨W.heap.size, 3, none⟩ (.int .i64 a)).setCell ⟨W.heap.size, 4, none⟩ (.int .i64 b2)).setCell ⟨W.heap.size, 5, none⟩ (.int .i64 via)) = wB from hwB]
  refine hK.out _ _ ?s23 (fun hHeld => ?_)
  case s23 => exact HSB
  clear hK K
  (try simp only [Act.put, List.setIfInBounds_toArray, List.set_cons_zero, List.set_cons_succ])
  refine wpAnyH_take_at (i := 24) (v := ?v24) rfl (by kernel_rfl) (by kernel_rfl) (by kernel_rfl) (fun _ _ _ h => h) (Or.inl ⟨by rfl, ?y24⟩) hHeld ?r24
  case y24 => (intro w hSw; (try dsimp only at hSw); go_simp; first | done | with_reducible rfl)
  (try simp only [Act.put, List.setIfInBounds_toArray, List.set_cons_zero, List.set_cons_succ])
  refine wpAnyH_done (by kernel_rfl) ?_ _
  refine NoPanic.normal ?_
  have hrc := HBB.out.2
  have hc0 := cell_of_heap hrc 0
  have hc1 := cell_of_heap hrc 1
  have hc2 := cell_of_heap hrc 2
  have hc3 := cell_of_heap hrc 3
  have hc4 := cell_of_heap hrc 4
  have hc5 := cell_of_heap hrc 5
  simp only [List.getElem?_toArray, List.getElem?_cons_zero, List.getElem?_cons_succ] at hc0 hc1 hc2 hc3 hc4 hc5
  clear HB HA HR HBA HSA hA0 hA1 hA2 hA3 hA4 hA5 hAf hzA
  go_wp2_with fail
  refine bodyPost_ret (v := .tuple #[.agg #[.int .i64 kind, .int .i64 head, .int .i64 who, .int .i64 a, .int .i64 b2, .int .i64 via], .bool v]) (by simp [results, Try.results33, go_sem, hc0, hc1, hc2, hc3, hc4, hc5]) rfl ⟨rfl, HBB.out.1⟩
theorem krule_spec {W : World} {kb : Nat} {p k : Int} (hp : p ≤ 64) (hk : k ≤ 64) {ao : Option Addr} {n cap mb : Nat} {vs : Value} {l : List Sp} (h : KnMem W kb p k ao n cap mb vs l) {rs : List Rl} (hrs : rs.length = n) (hcap : n ≤ cap) (hR : RuleRow W ao rs) (i : Int) :
    Calls Try.prog 33 #[.pointer (some ⟨kb, 0, none⟩), .int .i64 i] W (RulePost (ruleAt p k rs i).1 (ruleAt p k rs i).2 W) := by
  unfold ruleAt
  by_cases hi : 0 ≤ i ∧ i < rs.length
  · rw [if_pos hi]
    obtain ⟨j, rfl⟩ : ∃ j : Nat, i = j := ⟨i.toNat, by omega⟩
    have hj : j < rs.length := by omega
    obtain ⟨b, off, rfl, hb, hc⟩ := hR (by omega)
    have e : rs[j]? = some rs[j] := List.getElem?_eq_getElem hj
    rw [show ((j : Int)).toNat = j from rfl, e]
    exact rule_in hp hk h j (by omega) hcap rs[j] hb (hc j _ e)
  · rw [if_neg hi]
    exact rule_low h i (by omega)
end Go.Proofs.Ytahnedkdodjomaa
