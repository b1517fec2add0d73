/-
  The document's table of nodes: New, Is, Var, Make, At.
-/
import Derived.Test.YtmljmpjpdgijlaaNodeMake
set_option linter.unusedVariables false
set_option linter.unusedSimpArgs false
namespace Go.Proofs.Ytmljmpjpdgijlaa
open Go.ChangeShapes Go.WideShapes Go.ChangeAt Go.RowKit Go.Deep NodePlain

def refObj (V B : Int) (vn : Value) (s : Bool) : Obj := .cells #[.int .i64 V, .int .i64 B, vn, .bool s] 64 (0, 0)
/-- The document's table in memory. -/
structure RefMem (w : World) (r : Nat) (vn : Value) (V B : Int) (L : Nat → Nd) (n : Nat) (s : Bool) : Prop where
  obj : w.heap[r]? = some (refObj V B vn s)
  nodes : w.ownsRow 0 58 3 vn n (ndRow L n)
def refFp (r : Nat) (vn : Value) : Nat → Prop := fun k => k = r ∨ vn.ownBlock = some k

section
variable {w : World} {r : Nat} {vn : Value} {V B : Int} {L : Nat → Nd} {n : Nat} {s : Bool}
theorem RefMem.keeps {w' : World} (h : RefMem w r vn V B L n s) {S : Nat → Prop} (hk : Keeps S w w') (hs : ∀ k, refFp r vn k → ¬ S k) : RefMem w' r vn V B L n s :=
  ⟨(hk.block r (lt_of_heap h.obj) (hs r (.inl rfl))).trans h.obj, ownsRow_keeps' h.nodes hk (fun k hk' => hs k (.inr hk'))⟩
theorem RefMem.lt (h : RefMem w r vn V B L n s) : ∀ k, refFp r vn k → k < w.heap.size := by
  intro k hk
  rcases hk with rfl | hk
  · exact lt_of_heap h.obj
  · exact own_lt h.nodes k hk
theorem RefMem.ne (h : RefMem w r vn V B L n s) : vn.ownBlock ≠ some r := by
  intro e
  have := own_type h.nodes e h.obj
  revert this; decide
theorem RefMem.row (h : RefMem w r vn V B L n s) :
    ∃ ao cap, vn = .slice ao n cap ∧ n ≤ cap ∧ cap ≤ maxLen ∧ (0 < n → ∃ g, ao = some ⟨g, 0, none⟩ ∧ g < w.heap.size ∧ NodeRow w g n L) := by
  obtain ⟨ao, cap, hv, hle, hm, hnone, hold⟩ := own_form h.nodes
  refine ⟨ao, cap, hv, hle, hm, fun h0 => ?_⟩
  cases ao with
  | none => have := hnone rfl; omega
  | some a =>
    obtain ⟨h4, h5, h6, _, h7⟩ := hold a rfl
    obtain ⟨bb, off, sp⟩ := a
    simp only at h4 h5 h6 h7
    subst h4; subst h5
    refine ⟨bb, rfl, h6, fun j hj => ⟨?_, ?_, ?_⟩⟩
    · exact h7 (j * 3) _ ((ndRow_get L 0 (by omega) n j hj).trans rfl)
    · exact h7 (j * 3 + 1) _ ((ndRow_get L 1 (by omega) n j hj).trans rfl)
    · exact h7 (j * 3 + 2) _ ((ndRow_get L 2 (by omega) n j hj).trans rfl)

def RefNewPost (V B : Int) (w : World) (e : Ending) (w' : World) : Prop :=
  e = .returned (.pointer (some ⟨w.heap.size, 0, none⟩)) ∧ RefMem w' w.heap.size (.slice none 0 0) V B (fun _ => default) 0 false ∧ Below w.heap.size w w'
set_option maxRecDepth 10000 in
set_option maxHeartbeats 800000 in
theorem refNew_any (vars budget V B : Int) (hV : (vars ≤ 0 ∧ V = 0) ∨ (0 < vars ∧ vars ≤ 61 ∧ V = vars) ∨ (61 < vars ∧ V = 61)) (hB : (budget ≤ 0 ∧ B = 0) ∨ (0 < budget ∧ B = budget)) (w : World) :
    Calls Try.prog 31 #[.int .i64 vars, .int .i64 budget] w (RefNewPost V B w) := by
  have hx : ∀ W, (W = w.alloc (refObj V B (.slice none 0 0) false)) → RefNewPost V B w (.returned (.pointer (some ⟨w.heap.size, 0, none⟩))) W := by
    intro W hW
    subst hW
    exact ⟨rfl, ⟨heap_alloc_new w _, World.ownsRow_nil _ _ _ _⟩, (Below.refl _ _).alloc (Nat.le_refl _) _⟩
  have Hx := Lib.hid hx; clear hx
  rcases hV with ⟨h1, rfl⟩ | ⟨h1, h2, rfl⟩ | ⟨h1, rfl⟩ <;> rcases hB with ⟨h3, rfl⟩ | ⟨h3, rfl⟩
  all_goals
    go_enter Try.func31, Try.ntmps31
    go_wp2
    go_ret
    exact Hx.out _ rfl

set_option maxRecDepth 10000 in
theorem ris_spec (h : RefMem w r vn V B L n s) (hn : n ≤ 1000000000000) (k : Int) (hk : k ≤ 9223372036854775807) :
    Calls Try.prog 38 #[.pointer (some ⟨r, 0, none⟩), .int .i64 k] w fun e w' => e = .returned (.bool (isN n k)) ∧ w = w' := by
  obtain ⟨ao, cap, rfl, hle, hmx, _⟩ := h.row
  have c2 : w.cell? ⟨r, 2, none⟩ = some (.slice ao n cap) := by rw [cell_of_heap h.obj]; rfl
  rcases Int.lt_or_le k 0 with h0 | h0
  · have hr : isN n k = false := by simp [isN]; omega
    rw [hr]
    go_enter Try.func38, Try.ntmps38
    go_wp2
    go_ret
    exact ⟨rfl, rfl⟩
  · have hr : isN n k = decide (k < n + 2) := by simp [isN, h0]
    rw [hr]
    go_enter Try.func38, Try.ntmps38
    go_wp2
    go_ret
    exact ⟨rfl, rfl⟩

set_option maxRecDepth 10000 in
set_option maxHeartbeats 800000 in
theorem rvar_spec (h : RefMem w r vn V B L n s) (hn : n ≤ 1000000000000) (k : Int) (hk0 : -9223372036854775808 ≤ k) (hk : k ≤ 9223372036854775807) :
    Calls Try.prog 40 #[.pointer (some ⟨r, 0, none⟩), .int .i64 k] w fun e w' => e = .returned (.int .i64 (varN V L n k)) ∧ w = w' := by
  have HI := Lib.hid (ris_spec h hn k hk)
  have c0 : w.cell? ⟨r, 0, none⟩ = some (.int .i64 V) := by rw [cell_of_heap h.obj]; rfl
  rcases Int.lt_or_le k 2 with h2 | h2
  · have hr : varN V L n k = V := by unfold varN; rw [if_neg (by omega)]
    rw [hr]
    clear h hr
    go_enter Try.func40, Try.ntmps40
    go_wp2
    go_ret
    exact ⟨rfl, rfl⟩
  · by_cases hlt : k < n + 2
    · obtain ⟨m, rfl⟩ : ∃ m : Nat, k = m + 2 := ⟨(k - 2).toNat, by omega⟩
      have hr : varN V L n ((m : Int) + 2) = (L m).1 := var_node (by omega)
      have hi : isN n ((m : Int) + 2) = true := by simp [isN]; omega
      obtain ⟨ao, cap, rfl, hle, hmx, hrow⟩ := h.row
      unfold maxLen at hmx
      obtain ⟨g, rfl, hg, hrw⟩ := hrow (by omega)
      have c2 : w.cell? ⟨r, 2, none⟩ = some (.slice (some ⟨g, 0, none⟩) n cap) := by rw [cell_of_heap h.obj]; rfl
      obtain ⟨r0, r1, r2⟩ := hrw m (by omega)
      have hmn : (m : Int) < (n : Int) := by omega
      have hsub : IntKind.i64.wrap ((m : Int) + 2 - 2) = m := (IntWalk.i64_in _ (by omega)).trans (by omega)
      have hmI : (m : Int) ≤ 1000000000000 := by omega
      rw [hi] at HI
      rw [hr]
      generalize (L m).1 = z at r0 ⊢
      clear h hrow hrw hr hi hn hk hlt hmx r1 r2
      go_enter Try.func40, Try.ntmps40
      go_wp2_with (go_at_call 38; refine HI.out.mono ?_; rintro e w' ⟨rfl, rfl⟩)
      go_ret
      exact ⟨rfl, rfl⟩
    · have hr : varN V L n k = V := by unfold varN; rw [if_neg (by omega)]
      have hi : isN n k = false := by simp [isN]; omega
      rw [hi] at HI
      rw [hr]
      clear h hr hi
      go_enter Try.func40, Try.ntmps40
      go_wp2_with (go_at_call 38; refine HI.out.mono ?_; rintro e w' ⟨rfl, rfl⟩)
      go_ret
      exact ⟨rfl, rfl⟩

/-- Halved so often, a number tells its bit. -/
theorem half_test (X v : Nat) : (X / 2 ^ v % 2 == 1) = X.testBit v := by
  rw [Nat.testBit_eq_decide_div_mod_eq, Bool.eq_iff_iff]
  simp

set_option maxRecDepth 100000 in
set_option maxHeartbeats 1600000 in
theorem rat_spec (X : Nat) (hX : X < 18446744073709551616) (hn : n ≤ 1000000000000) (hV : V ≤ 61) (g : NodePlain.Good V L n) : ∀ (f : Nat) (k : Int), k < f → -9223372036854775808 ≤ k → k ≤ 9223372036854775807 → ∀ w, RefMem w r vn V B L n s →
    Calls Try.prog 43 #[.pointer (some ⟨r, 0, none⟩), .int .i64 k, .int .u64 X] w fun e w' => e = .returned (.bool (isN n k && ev L X.testBit k)) ∧ Below w.heap.size w w' := by
  intro f
  induction f with
  | zero =>
    intro k hkf hk0 hk1 w h
    have hi : isN n k = false := by simp [isN]; omega
    have HI := Lib.hid (ris_spec h hn k hk1)
    rw [hi] at HI ⊢
    rw [Bool.false_and]
    clear h hi
    go_enter Try.func43, Try.ntmps43
    go_wp2_with (go_at_call 38; refine HI.out.mono ?_; rintro e w' ⟨rfl, rfl⟩)
    go_ret
    exact ⟨rfl, Below.refl _ _⟩
  | succ f ih =>
    intro k hkf hk0 hk1 w h
    have HI := Lib.hid (ris_spec h hn k hk1)
    have IH := Lib.hid ih
    clear ih
    cases hi : isN n k with
    | false =>
      rw [hi] at HI
      rw [Bool.false_and]
      clear h hi
      go_enter Try.func43, Try.ntmps43
      go_wp2_with (go_at_call 38; refine HI.out.mono ?_; rintro e w' ⟨rfl, rfl⟩)
      go_ret
      exact ⟨rfl, Below.refl _ _⟩
    | true =>
      have hin : 0 ≤ k ∧ k < n + 2 := by simpa [isN] using hi
      obtain ⟨hin0, hin1⟩ := hin
      rw [hi] at HI
      rw [Bool.true_and]
      clear hi
      rcases Int.lt_or_le k 2 with h2 | h2
      · have he := ev_low L X.testBit k h2
        rw [he]
        clear h he
        rcases (by omega : k = 0 ∨ k = 1) with rfl | rfl
        all_goals
          go_enter Try.func43, Try.ntmps43
          go_wp2_with (go_at_call 38; refine HI.out.mono ?_; rintro e w' ⟨rfl, rfl⟩)
          go_ret
          exact ⟨rfl, Below.refl _ _⟩
      · obtain ⟨i, rfl⟩ : ∃ i : Nat, k = i + 2 := ⟨(k - 2).toNat, by omega⟩
        have hin : i < n := by omega
        obtain ⟨ao, cap, rfl, hle, hmx, hrow⟩ := h.row
        unfold maxLen at hmx
        obtain ⟨gb, rfl, hgb, hrw⟩ := hrow (by omega)
        have c2 : w.cell? ⟨r, 2, none⟩ = some (.slice (some ⟨gb, 0, none⟩) n cap) := by rw [cell_of_heap h.obj]; rfl
        obtain ⟨r0, r1, r2⟩ := hrw i hin
        obtain ⟨p1, p2, p3, p4, p5, p6, _⟩ := g.node i hin
        have hnode := ev_node g X.testBit i hin
        obtain ⟨⟨a0, a1, a2⟩, hLi⟩ : ∃ p, p = L i := ⟨_, rfl⟩
        rw [← hLi] at r0 r1 r2 p1 p2 p3 p4 p5 p6 hnode
        simp only [] at r0 r1 r2 p1 p2 p3 p4 p5 p6 hnode
        obtain ⟨v, rfl⟩ : ∃ v : Nat, a0 = v := ⟨a0.toNat, by omega⟩
        rw [hnode]
        have hmn : (i : Int) < (n : Int) := by omega
        have hsub : IntKind.i64.wrap ((i : Int) + 2 - 2) = i := (IntWalk.i64_in _ (by omega)).trans (by omega)
        have hmI : (i : Int) ≤ 1000000000000 := by omega
        have hv61 : v ≤ 61 := by omega
        have HX := Lib.hid hX
        have HM := Lib.hid h
        have hT := half_test X v
        rw [show ((v : Int)).toNat = v from rfl]
        rw [← hT]
        have Ha : Hid (∀ W, Keeps (fun _ => False) w W → Calls Try.prog 43 #[.pointer (some ⟨r, 0, none⟩), .int .i64 a1, .int .u64 X] W fun e w' => e = .returned (.bool (ev L X.testBit a1)) ∧ Below W.heap.size W w') := fun W hW => by
          have := IH.out a1 (by omega) (by omega) (by omega) W (HM.out.keeps hW (fun _ _ x => x))
          rw [show isN n a1 = true from by simp [isN]; omega, Bool.true_and] at this
          exact this
        have Hb : Hid (∀ W, Keeps (fun _ => False) w W → Calls Try.prog 43 #[.pointer (some ⟨r, 0, none⟩), .int .i64 a2, .int .u64 X] W fun e w' => e = .returned (.bool (ev L X.testBit a2)) ∧ Below W.heap.size W w') := fun W hW => by
          have := IH.out a2 (by omega) (by omega) (by omega) W (HM.out.keeps hW (fun _ _ x => x))
          rw [show isN n a2 = true from by simp [isN]; omega, Bool.true_and] at this
          exact this
        generalize ev L X.testBit a1 = e1 at Ha ⊢
        generalize ev L X.testBit a2 = e2 at Hb ⊢
        obtain ⟨res, hres⟩ : ∃ res, (if (X / 2 ^ v % 2 == 1) = true then e2 else e1) = res := ⟨_, rfl⟩
        rw [hres]
        have HR := Lib.hid hres
        clear hres
        clear h hrow hrw hLi hnode hT IH g hX hin0 hin1 hkf hk0 hk1 p1 p2 p3 p4 p5 p6 hmx
        go_enter Try.func43, Try.ntmps43
        go_wp2_with (go_at_call 38; refine HI.out.mono ?_; rintro e w' ⟨rfl, rfl⟩)
        go_loopg [8, 9] v (fun g s8 s9 wr => ∃ j q : Nat, j ≤ v ∧ g = v - j ∧ s9 = .int .i64 j ∧ s8 = .int .u64 q ∧ Hid (q = X / 2 ^ j) ∧ Keeps (fun _ => False) (w.alloc (.cells #[.int .i64 v, .int .i64 a1, .int .i64 a2] 58)) wr)
        case atStart => exact ⟨0, X, Nat.zero_le _, rfl, rfl, rfl, by show X = X / 2 ^ 0; simp, Keeps.refl _ _⟩
        case round =>
          obtain ⟨j, q, hj, rfl, rfl, rfl, hq, hk⟩ := hrel
          have hqX : (q : Int) ≤ 18446744073709551615 := by
            have h1 : q ≤ X := by rw [hq.out]; exact Nat.div_le_self _ _
            have h2 := HX.out
            omega
          have hqX0 : (0 : Int) ≤ (q : Int) := by omega
          have q0 : wr.cell? ⟨w.heap.size, 0, none⟩ = some (.int .i64 v) := (hk.cell (p := ⟨w.heap.size, 0, none⟩) (by simp) (fun x => x)).trans (by simp)
          have q1 : wr.cell? ⟨w.heap.size, 1, none⟩ = some (.int .i64 a1) := (hk.cell (p := ⟨w.heap.size, 1, none⟩) (by simp) (fun x => x)).trans (by simp)
          have q2 : wr.cell? ⟨w.heap.size, 2, none⟩ = some (.int .i64 a2) := (hk.cell (p := ⟨w.heap.size, 2, none⟩) (by simp) (fun x => x)).trans (by simp)
          by_cases hlt : j < v
          · have hq2 : q / 2 = X / 2 ^ (j + 1) := by rw [hq.out, Nat.pow_succ, Nat.div_div_eq_div_mul]
            have HQ := Lib.hid hq2; clear hq2
            go_wp2_with fail
            go_roundg (v - (j + 1))
            case measure => omega
            case rel => exact ⟨j + 1, q / 2, by omega, rfl, by go_num, by first | rfl | go_num, HQ.out, hk⟩
          · obtain rfl : j = v := by omega
            have hres := HR.out
            rw [← hq.out] at hres
            have kk : Keeps (fun _ => False) w wr := ((Keeps.refl _ _).alloc _).trans hk
            have HK := Lib.hid kk
            clear kk hq
            by_cases hb : q % 2 = 1
            · have hbI : ((q : Int) % 2 == 1) = true := by simp; omega
              rw [if_pos (by simpa using hb)] at hres
              subst hres
              clear hb HR
              go_wp2_with fail
              refine (Hb.out _ HK.out).mono ?_
              rintro e w2 ⟨rfl, hb2⟩
              go_wp2_with fail
              go_ret
              exact ⟨rfl, (HK.out.trans (Keeps.of_below hb2 (Nat.le_refl _))).below (Nat.le_refl _) (fun _ _ x => x)⟩
            · have hbI : ((q : Int) % 2 == 1) = false := by simp; omega
              rw [if_neg (by simpa using hb)] at hres
              subst hres
              clear hb HR
              go_wp2_with fail
              refine (Ha.out _ HK.out).mono ?_
              rintro e w2 ⟨rfl, hb2⟩
              go_wp2_with fail
              go_ret
              exact ⟨rfl, (HK.out.trans (Keeps.of_below hb2 (Nat.le_refl _))).below (Nat.le_refl _) (fun _ _ x => x)⟩
end
end Go.Proofs.Ytmljmpjpdgijlaa
