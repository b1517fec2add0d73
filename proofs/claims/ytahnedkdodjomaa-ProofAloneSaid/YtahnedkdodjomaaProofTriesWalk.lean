/-
  All steps of a rule: the walk.
-/
import Derived.Test.YtahnedkdodjomaaProofTries
import Derived.Deep.LoopGhost
set_option linter.unusedVariables false
set_option linter.unusedSimpArgs false
set_option linter.unnecessarySimpa false
namespace Go.Proofs.Ytahnedkdodjomaa
open Go.ChangeShapes Go.WideShapes Go.ChangeAt Go.RowKit Go.Deep SetPlain
def candO (i : Nat) (head : Int) (M j : Nat) (s : Sp) : Prop := ∃ who mid : Nat, s = ⟨i, head, who, mid⟩ ∧ who < j ∧ mid < M
def candI (i : Nat) (head : Int) (M j m : Nat) (s : Sp) : Prop := candO i head M j s ∨ ∃ mid : Nat, s = ⟨i, head, j, mid⟩ ∧ mid < m
def TriesPost (z : Nat) (w : World) (kb P K : Nat) (ao : Option Addr) (n cap mb : Nat) (rs : List Rl) (vs : Value) (l : List Sp) (W : World) (i : Nat) (e : Ending) (W' : World) : Prop :=
  ∃ v vs' l', e = .returned (.bool v) ∧ Hid (KnE z w W' kb P K ao n cap mb vs' l' rs) ∧ Hid (KnTo W W' kb mb vs vs') ∧ Hid (TrB P K rs l l' v (fun s => s.rule = i))
section
variable {z : Nat} {w W W' : World} {kb : Nat} {P K : Nat} {ao : Option Addr} {n cap mb : Nat} {vs vs' : Value} {l l' l1 : List Sp} {rs : List Rl}
theorem TrB.rule {i M : Nat} {r : Rl} {flag : Bool} (h : TrB P K rs l l1 flag (candO i r.head M P)) (hr : rs[i]? = some r) (hM : (r.kind = 3 → P ≤ M) ∧ (r.kind ≠ 3 → 0 < M)) : TrB P K rs l l1 flag (fun s => s.rule = i) := by
  refine ⟨h.grow, h.more, fun hf => ⟨(h.none hf).1, fun s hs => ?_⟩⟩
  cases hm : mayB P K rs l s with
  | false => rfl
  | true =>
    obtain ⟨i', r', c, m, hr', hR, rfl, hc, h3, h4⟩ := may_form hm
    simp only [] at hs
    obtain rfl : i' = i := by omega
    rw [hr] at hr'; cases hr'
    have := (h.none hf).2 _ ⟨c, m, rfl, hc, by
      rcases Int.decEq r.kind 3 with hk | hk
      · have := h3 hk; have := hM.2 hk; omega
      · have := h4 hk; have := hM.1 hk; omega⟩
    rw [hm] at this; cases this
theorem tries_none {i : Nat} (h : (ruleAt P K rs i).2 = false) : TrB P K rs l l false (fun s => s.rule = i) := by
  refine ⟨.refl _, (fun h => by cases h), fun _ => ⟨rfl, fun s hs => ?_⟩⟩
  cases hm : mayB P K rs l s with
  | false => rfl
  | true =>
    obtain ⟨i', r', c, m, hr', hR, rfl, _⟩ := may_form hm
    simp only [] at hs
    obtain rfl : i' = i := by omega
    rw [ruleAt_in hr', hR] at h
    cases h
theorem ruleAt_some {i : Nat} (h : (ruleAt P K rs i).2 = true) : rs[i]? = some (ruleAt P K rs i).1 := by
  unfold ruleAt at h ⊢
  split at h
  · rename_i hi
    rw [if_pos hi]
    have e : (i : Int).toNat = i := rfl
    rw [e]
    rw [List.getElem?_eq_getElem (by omega)]
    rfl
  · cases h
set_option maxRecDepth 100000
set_option maxHeartbeats 3200000
theorem candI_succ {i M j m : Nat} {head : Int} : ∀ s, candI i head M j (m + 1) s → candI i head M j m s ∨ s = ⟨i, head, j, m⟩ := by
  rintro s (h | ⟨mid, rfl, h⟩)
  · exact .inl (.inl h)
  · rcases Nat.lt_or_ge mid m with h1 | h1
    · exact .inl (.inr ⟨mid, rfl, h1⟩)
    · obtain rfl : mid = m := by omega
      exact .inr rfl
theorem candI_end {i M j : Nat} {head : Int} : ∀ s, candO i head M (j + 1) s → candI i head M j M s := by
  rintro s ⟨who, mid, rfl, h, hm⟩
  rcases Nat.lt_or_ge who j with h1 | h1
  · exact .inl ⟨who, mid, rfl, h1, hm⟩
  · obtain rfl : who = j := by omega
    exact .inr ⟨mid, rfl, hm⟩
theorem tries_spec (h : KnE z w W kb P K ao n cap mb vs l rs) (i : Nat) :
    Calls Try.prog 32 #[.pointer (some ⟨kb, 0, none⟩), .int .i64 i] W (TriesPost z w kb P K ao n cap mb rs vs l W i) := by
  have hp : (P : Int) ≤ 64 := by have := h.hP; omega
  have hk : (K : Int) ≤ 64 := by have := h.hK; omega
  have HC0 := Lib.hid (krule_spec hp hk h.mem h.hrs h.hcap h.row i)
  have hno := @tries_none P K l rs i
  have hso := @ruleAt_some P K rs i
  have HH := Lib.hid h
  have hPP := h.hP
  clear h
  obtain ⟨⟨⟨kind, head, rwho, a, b, via⟩, ok⟩, hx⟩ : ∃ x, ruleAt P K rs i = x := ⟨_, rfl⟩
  simp only [hx] at HC0 hno hso
  have HC : Hid (Calls Try.prog 33 #[.pointer (some ⟨kb, 0, none⟩), .int .i64 i] W fun e W' => e = .returned (.tuple #[.agg #[.int .i64 kind, .int .i64 head, .int .i64 rwho, .int .i64 a, .int .i64 b, .int .i64 via], .bool ok]) ∧ Below W.heap.size W W') := HC0.out
  clear HC0
  go_enter Try.func32, Try.ntmps32
  go_upto_region 1 with fail
  cases ok with
  | false =>
    have HN := Lib.hid (hno rfl)
    go_wp2_with (go_at_call 33; refine HC.out.mono ?_; rintro e wA ⟨rfl, hbA⟩)
    have HP : Hid (∀ W', Keeps (fun _ => False) wA W' → TriesPost z w kb P K ao n cap mb rs vs l W i (.returned (.bool false)) W') := fun W' hk' => by
      have hk2 := (Keeps.of_below (S := fun _ => False) hbA (Nat.le_refl _)).trans hk'
      exact ⟨false, vs, l, rfl, HH.out.quiet hk2, KnTo.quiet hk2, HN.out⟩
    clear HC hno hso HH HN hbA
    go_wp2_with fail
    go_ret
    exact HP.out _ (by first | exact (Keeps.refl _ _).alloc _ | exact ((Keeps.refl _ _).alloc _).drewN _)
  | true =>
    have HRS := Lib.hid (hso rfl)
    have HS : Hid (∀ wA, Below W.heap.size W wA → wA.cell? ⟨kb, 0, none⟩ = some (.int .i64 P) ∧ kb < wA.heap.size ∧ Hid (TrS z w W kb P K ao n cap mb rs vs l wA.heap.size ⟨kind, head, rwho, a, b, via⟩ (wA.alloc (.cells #[.int .i64 kind, .int .i64 head, .int .i64 rwho, .int .i64 a, .int .i64 b, .int .i64 via] 39)) vs l false (fun _ => False))) := fun wA hb => by
      have hk := Keeps.of_below (S := fun _ => False) hb (Nat.le_refl _)
      have hA := HH.out.quiet hk
      have hB : Keeps (fun _ => False) wA (wA.alloc (.cells #[.int .i64 kind, .int .i64 head, .int .i64 rwho, .int .i64 a, .int .i64 b, .int .i64 via] 39)) := (Keeps.refl _ _).alloc _
      exact ⟨hA.mem.cells.1, lt_of_heap hA.mem.obj, hA.quiet hB, KnTo.quiet (hk.trans hB), hA.new rfl _, hk.size, TrB.start⟩
    clear hno hso hx HH
    by_cases hk3 : kind = 3
    · subst hk3
      have HMM : Hid (∀ l1 fl, TrB P K rs l l1 fl (candO i head P P) → TrB P K rs l l1 fl (fun s => s.rule = i)) := fun l1 fl h => TrB.rule h HRS.out ⟨fun _ => Nat.le_refl _, fun h => absurd rfl h⟩
      go_wp2_with (go_at_call 33; refine HC.out.mono ?_; rintro e wA ⟨rfl, hbA⟩; obtain ⟨cA, lA, HS0⟩ := HS.out wA hbA; clear hbA)
      clear HC HS cA lA
      generalize (wA.alloc (.cells #[.int .i64 3, .int .i64 head, .int .i64 rwho, .int .i64 a, .int .i64 b, .int .i64 via] 39)) = w0 at *
      generalize wA.heap.size = rb at *
      go_loopg [4, 23] P (fun g s t wy => ∃ (j : Nat) (fl : Bool) (ly : List Sp) (vy : Value), j ≤ P ∧ g = P - j ∧ s = .bool fl ∧ t = .int .i64 j ∧ Hid (TrS z w W kb P K ao n cap mb rs vs l rb ⟨3, head, rwho, a, b, via⟩ wy vy ly fl (candO i head P j)))
      case atStart => exact ⟨0, false, l, vs, Nat.zero_le _, rfl, rfl, rfl, HS0.out.kn, HS0.out.dst, HS0.out.rbx, HS0.out.rle, HS0.out.trb.weaken (fun s ⟨_, _, _, h, _⟩ => absurd h (Nat.not_lt_zero _))⟩
      case round =>
        clear HS0
        obtain ⟨j, fl, ly, vy, hj, rfl, rfl, rfl, HT⟩ := hrel
        by_cases hlt : j < P
        · have hjI : (j : Int) < (P : Int) := by omega
          obtain ⟨c0, _⟩ := HT.out.kn.mem.cells
          have hrx := HT.out.rbx.at_
          have r0 := cell_of_heap hrx 0
          have r1 := cell_of_heap hrx 1
          simp only [List.getElem?_toArray, List.getElem?_cons_zero, List.getElem?_cons_succ] at r0 r1
          have lk := lt_of_cell c0
          have lrb := lt_of_heap hrx
          have HI0 : Hid (TrS z w W kb P K ao n cap mb rs vs l rb ⟨3, head, rwho, a, b, via⟩ (wr.alloc (spO i head j 0)) vy ly fl (candI i head P j 0) ∧ Bx (wr.alloc (spO i head j 0)) kb mb vy wr.heap.size (spO i head j 0)) := by
            have hq := HT.out.quiet (wy' := wr.alloc (spO i head j 0)) ((Keeps.refl _ _).alloc _)
            exact ⟨⟨hq.kn, hq.dst, hq.rbx, hq.rle, hq.trb.weaken (fun s hs => hs.elim id (fun ⟨_, _, h⟩ => absurd h (Nat.not_lt_zero _)))⟩, HT.out.kn.new rfl _⟩
          have HSB : Hid (W.heap.size ≤ wr.heap.size ∧ z ≤ wr.heap.size ∧ wr.heap.size ≠ rb) := ⟨HT.out.dst.keeps.size, by have := HT.out.kn.base.size; have := HT.out.kn.hz; omega, by omega⟩
          clear hrx HT
          go_wp2_with fail
          go_loopg [4, 39] P (fun g s t wy => ∃ (m : Nat) (fl : Bool) (ly : List Sp) (vy : Value) (mv : Int), m ≤ P ∧ g = P - m ∧ s = .bool fl ∧ t = .int .i64 m ∧ Hid (TrS z w W kb P K ao n cap mb rs vs l rb ⟨3, head, rwho, a, b, via⟩ wy vy ly fl (candI i head P j m)) ∧ Hid (Bx wy kb mb vy wr.heap.size (spO i head j mv)))
          case atStart => exact ⟨0, fl, ly, vy, 0, Nat.zero_le _, rfl, rfl, rfl, HI0.out.1, HI0.out.2⟩
          case round =>
            clear HI0
            obtain ⟨m, fl2, ly2, vy2, mv, hm, rfl, rfl, rfl, HT, HX⟩ := hrel
            by_cases hltm : m < P
            · have hmI : (m : Int) < ((P : Nat) : Int) := by omega
              have hx := HX.out.at_
              unfold spO at hx
              have x0 := cell_of_heap hx 0
              have x1 := cell_of_heap hx 1
              have x2 := cell_of_heap hx 2
              have x3 := cell_of_heap hx 3
              simp only [List.getElem?_toArray, List.getElem?_cons_zero, List.getElem?_cons_succ] at x0 x1 x2 x3
              have hf3 := free_of_heap hx 3
              have hlx := lt_of_heap hx
              obtain ⟨hT2, hX2⟩ := HT.out.mid HSB.out.1 HSB.out.2.1 HSB.out.2.2 HX.out m
              have HC := Lib.hid (hT2.put hX2)
              clear hx hT2 hX2 HT HX
              go_wp2_with (go_at_call 22; refine HC.out.mono ?_; rintro e wC ⟨v, vs3, ly3, rfl, hC⟩; clear HC; cases v)
              · go_roundg (P - (m + 1))
                case measure => omega
                case rel => exact ⟨m + 1, fl2, ly3, vs3, m, by omega, rfl, rfl, by go_num, ⟨hC.out.1.kn, hC.out.1.dst, hC.out.1.rbx, hC.out.1.rle, (by simpa using hC.out.1.trb.weaken (candI_succ))⟩, hC.out.2⟩
              · go_roundg (P - (m + 1))
                case measure => omega
                case rel => exact ⟨m + 1, true, ly3, vs3, m, by omega, rfl, rfl, by go_num, ⟨hC.out.1.kn, hC.out.1.dst, hC.out.1.rbx, hC.out.1.rle, (by simpa using hC.out.1.trb.weaken (candI_succ))⟩, hC.out.2⟩
            · have hmE : m = P := by omega
              have hmI : ¬ (m : Int) < ((P : Nat) : Int) := by omega
              rw [hmE] at HT
              go_wp2_with fail
              go_roundg (P - (j + 1))
              case measure => omega
              case rel => exact ⟨j + 1, fl2, ly2, vy2, by omega, rfl, rfl, by go_num, ⟨HT.out.kn, HT.out.dst, HT.out.rbx, HT.out.rle, HT.out.trb.weaken (candI_end)⟩⟩
        · obtain rfl : j = P := by omega
          have hjI : ¬ (j : Int) < (j : Int) := by omega
          have HP : Hid (TriesPost z w kb j K ao n cap mb rs vs l W i (.returned (.bool fl)) wr) := ⟨fl, vy, ly, rfl, HT.out.kn, HT.out.dst, HMM.out _ _ HT.out.trb⟩
          clear HT
          go_wp2_with fail
          go_ret
          exact HP.out
    · have HMM : Hid (∀ l1 fl, TrB P K rs l l1 fl (candO i head 1 P) → TrB P K rs l l1 fl (fun s => s.rule = i)) := fun l1 fl h => TrB.rule h HRS.out ⟨fun h => absurd h hk3, fun _ => Nat.one_pos⟩
      have hk4 : decide (kind = 3) = false := decide_eq_false hk3
      go_wp2_with (go_at_call 33; refine HC.out.mono ?_; rintro e wA ⟨rfl, hbA⟩; obtain ⟨cA, lA, HS0⟩ := HS.out wA hbA; clear hbA)
      clear HC HS cA lA
      generalize (wA.alloc (.cells #[.int .i64 kind, .int .i64 head, .int .i64 rwho, .int .i64 a, .int .i64 b, .int .i64 via] 39)) = w0 at *
      generalize wA.heap.size = rb at *
      go_loopg [4, 23] P (fun g s t wy => ∃ (j : Nat) (fl : Bool) (ly : List Sp) (vy : Value), j ≤ P ∧ g = P - j ∧ s = .bool fl ∧ t = .int .i64 j ∧ Hid (TrS z w W kb P K ao n cap mb rs vs l rb ⟨kind, head, rwho, a, b, via⟩ wy vy ly fl (candO i head 1 j)))
      case atStart => exact ⟨0, false, l, vs, Nat.zero_le _, rfl, rfl, rfl, HS0.out.kn, HS0.out.dst, HS0.out.rbx, HS0.out.rle, HS0.out.trb.weaken (fun s ⟨_, _, _, h, _⟩ => absurd h (Nat.not_lt_zero _))⟩
      case round =>
        clear HS0
        obtain ⟨j, fl, ly, vy, hj, rfl, rfl, rfl, HT⟩ := hrel
        by_cases hlt : j < P
        · have hjI : (j : Int) < (P : Int) := by omega
          obtain ⟨c0, _⟩ := HT.out.kn.mem.cells
          have hrx := HT.out.rbx.at_
          have r0 := cell_of_heap hrx 0
          have r1 := cell_of_heap hrx 1
          simp only [List.getElem?_toArray, List.getElem?_cons_zero, List.getElem?_cons_succ] at r0 r1
          have lk := lt_of_cell c0
          have lrb := lt_of_heap hrx
          have HI0 : Hid (TrS z w W kb P K ao n cap mb rs vs l rb ⟨kind, head, rwho, a, b, via⟩ (wr.alloc (spO i head j 0)) vy ly fl (candI i head 1 j 0) ∧ Bx (wr.alloc (spO i head j 0)) kb mb vy wr.heap.size (spO i head j 0)) := by
            have hq := HT.out.quiet (wy' := wr.alloc (spO i head j 0)) ((Keeps.refl _ _).alloc _)
            exact ⟨⟨hq.kn, hq.dst, hq.rbx, hq.rle, hq.trb.weaken (fun s hs => hs.elim id (fun ⟨_, _, h⟩ => absurd h (Nat.not_lt_zero _)))⟩, HT.out.kn.new rfl _⟩
          have HSB : Hid (W.heap.size ≤ wr.heap.size ∧ z ≤ wr.heap.size ∧ wr.heap.size ≠ rb) := ⟨HT.out.dst.keeps.size, by have := HT.out.kn.base.size; have := HT.out.kn.hz; omega, by omega⟩
          clear hrx HT
          go_wp2_with fail
          go_loopg [4, 39] 1 (fun g s t wy => ∃ (m : Nat) (fl : Bool) (ly : List Sp) (vy : Value) (mv : Int), m ≤ 1 ∧ g = 1 - m ∧ s = .bool fl ∧ t = .int .i64 m ∧ Hid (TrS z w W kb P K ao n cap mb rs vs l rb ⟨kind, head, rwho, a, b, via⟩ wy vy ly fl (candI i head 1 j m)) ∧ Hid (Bx wy kb mb vy wr.heap.size (spO i head j mv)))
          case atStart => exact ⟨0, fl, ly, vy, 0, Nat.zero_le _, rfl, rfl, rfl, HI0.out.1, HI0.out.2⟩
          case round =>
            clear HI0
            obtain ⟨m, fl2, ly2, vy2, mv, hm, rfl, rfl, rfl, HT, HX⟩ := hrel
            by_cases hltm : m < 1
            · have hmI : (m : Int) < ((1 : Nat) : Int) := by omega
              have hx := HX.out.at_
              unfold spO at hx
              have x0 := cell_of_heap hx 0
              have x1 := cell_of_heap hx 1
              have x2 := cell_of_heap hx 2
              have x3 := cell_of_heap hx 3
              simp only [List.getElem?_toArray, List.getElem?_cons_zero, List.getElem?_cons_succ] at x0 x1 x2 x3
              have hf3 := free_of_heap hx 3
              have hlx := lt_of_heap hx
              obtain ⟨hT2, hX2⟩ := HT.out.mid HSB.out.1 HSB.out.2.1 HSB.out.2.2 HX.out m
              have HC := Lib.hid (hT2.put hX2)
              clear hx hT2 hX2 HT HX
              go_wp2_with (go_at_call 22; refine HC.out.mono ?_; rintro e wC ⟨v, vs3, ly3, rfl, hC⟩; clear HC; cases v)
              · go_roundg (1 - (m + 1))
                case measure => omega
                case rel => exact ⟨m + 1, fl2, ly3, vs3, m, by omega, rfl, rfl, by go_num, ⟨hC.out.1.kn, hC.out.1.dst, hC.out.1.rbx, hC.out.1.rle, (by simpa using hC.out.1.trb.weaken (candI_succ))⟩, hC.out.2⟩
              · go_roundg (1 - (m + 1))
                case measure => omega
                case rel => exact ⟨m + 1, true, ly3, vs3, m, by omega, rfl, rfl, by go_num, ⟨hC.out.1.kn, hC.out.1.dst, hC.out.1.rbx, hC.out.1.rle, (by simpa using hC.out.1.trb.weaken (candI_succ))⟩, hC.out.2⟩
            · have hmE : m = 1 := by omega
              have hmI : ¬ (m : Int) < ((1 : Nat) : Int) := by omega
              rw [hmE] at HT
              go_wp2_with fail
              go_roundg (P - (j + 1))
              case measure => omega
              case rel => exact ⟨j + 1, fl2, ly2, vy2, by omega, rfl, rfl, by go_num, ⟨HT.out.kn, HT.out.dst, HT.out.rbx, HT.out.rle, HT.out.trb.weaken (candI_end)⟩⟩
        · obtain rfl : j = P := by omega
          have hjI : ¬ (j : Int) < (j : Int) := by omega
          have HP : Hid (TriesPost z w kb j K ao n cap mb rs vs l W i (.returned (.bool fl)) wr) := ⟨fl, vy, ly, rfl, HT.out.kn, HT.out.dst, HMM.out _ _ HT.out.trb⟩
          clear HT
          go_wp2_with fail
          go_ret
          exact HP.out
end
end Go.Proofs.Ytahnedkdodjomaa
