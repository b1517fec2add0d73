/-
  Are cubes, but for one of them, true just where a row is? Is a cube prime?
-/
import Derived.Test.YtloidoekmicloaaCubeIs
import Derived.Test.YtloidoekmicloaaCubeRight
import Derived.Test.YtloidoekmicloaaIteRows
set_option linter.unusedVariables false
set_option linter.unusedSimpArgs false
set_option linter.unnecessarySimpa false
namespace Go.Proofs.Ytloidoekmicloaa
open Go.ChangeShapes Go.WideShapes Go.ChangeAt Go.RowKit Go.Deep NodePlain
/-- Is a number in one of the first so many cubes, but for one of them? -/
def someT (X : Nat) (but : Int) (L : List (List Int)) (j : Nat) : Bool := (List.range j).any fun i => decide ((i : Int) ≠ but) && isB (βN X) 0 (L.getD i [])
theorem someT_succ {X : Nat} {but : Int} {L : List (List Int)} {j : Nat} {c : List Int} (h : L[j]? = some c) : someT X but L (j + 1) = (someT X but L j || (decide ((j : Int) ≠ but) && isB (βN X) 0 c)) := by
  have e : L.getD j [] = c := by rw [List.getD_eq_getElem?_getD, h]; rfl
  unfold someT
  rw [List.range_succ, List.any_append]
  simp only [List.any_cons, List.any_nil, Bool.or_false, e]
theorem someT_iff {X : Nat} {but : Int} {L : List (List Int)} : someT X but L L.length = true ↔ ∃ (i : Nat) (c : List Int), L[i]? = some c ∧ (i : Int) ≠ but ∧ isB (βN X) 0 c = true := by
  unfold someT
  rw [List.any_eq_true]
  constructor
  · rintro ⟨i, hi, h⟩
    rw [Bool.and_eq_true, decide_eq_true_eq] at h
    have hil := List.mem_range.1 hi
    refine ⟨i, L[i], List.getElem?_eq_getElem hil, h.1, ?_⟩
    have e : L.getD i [] = L[i] := by rw [List.getD_eq_getElem?_getD, List.getElem?_eq_getElem hil]; rfl
    rw [← e]; exact h.2
  · rintro ⟨i, c, hc, h1, h2⟩
    have hil := (List.getElem?_eq_some_iff.1 hc).1
    refine ⟨i, List.mem_range.2 hil, ?_⟩
    have e : L.getD i [] = c := by rw [List.getD_eq_getElem?_getD, hc]; rfl
    rw [e, h2, Bool.and_true, decide_eq_true_eq]
    exact h1
def covT (L : List (List Int)) (but : Int) (R : Nat → Bool) (m : Nat) : Bool := decide (∀ X, X < m → someT X but L L.length = R X)
section
variable {W : World}
set_option maxRecDepth 100000
set_option maxHeartbeats 1600000
theorem covers_spec {v : Value} {L : List (List Int)} (h : ReadsII W v L) (hlen : L.length ≤ 1000000) (hc : ∀ c, c ∈ L → c.length ≤ 1000000) {b m : Nat} {R : Nat → Bool} (hR : RowAt W b m R) (hm : m ≤ 64) (but : Int) :
    Calls Try.prog 10 #[v, .slice (some ⟨b, 0, none⟩) m m, .int .i64 but] W fun e W' => e = .returned (.bool (covT L but R m)) ∧ W = W' := by
  obtain ⟨ao, cap, rfl, hcap, hr⟩ := h
  obtain ⟨n, h2⟩ : ∃ n, L.length = n := ⟨_, rfl⟩
  rw [h2] at hcap hr hlen ⊢
  have HL := Lib.hid h2
  have HR := Lib.hid hr
  have HRW := Lib.hid hR
  have HC := Lib.hid hc
  obtain ⟨res, hres⟩ : ∃ res, covT L but R m = res := ⟨_, rfl⟩
  rw [hres]
  have HB := Lib.hid hres
  clear hr hres h2 hR hc
  go_enter Try.func10, Try.ntmps10
  go_wp2_with fail
  go_loopg [13] m (fun g t wy => ∃ (i : Nat), i ≤ m ∧ g = m - i ∧ t = .int .i64 i ∧ Hid (∀ X, X < i → someT X but L n = R X) ∧ wy = W)
  case atStart => exact ⟨0, Nat.zero_le _, rfl, rfl, fun X h => absurd h (Nat.not_lt_zero _), rfl⟩
  case round =>
    obtain ⟨i, hi, rfl, rfl, HH, rfl⟩ := hrel
    by_cases hlt : i < m
    · have hiI : (i : Int) < (m : Int) := by omega
      have hwi : IntKind.i64.wrap ((i : Int) + 1) = (i : Int) + 1 := IntWalk.i64_in _ (by omega)
      have hrow := HRW.out.cell hlt
      obtain ⟨r, hr⟩ : ∃ r, R i = r := ⟨_, rfl⟩
      rw [hr] at hrow
      have HRI := Lib.hid hr
      clear hr
      go_wp2_with fail
      go_loopg [8, 18] n (fun g s t wy => ∃ (j : Nat) (o : Bool), j ≤ n ∧ g = n - j ∧ s = .bool o ∧ t = .int .i64 j ∧ Hid (someT i but L j = o) ∧ wy = wr)
      case atStart => exact ⟨0, false, Nat.zero_le _, rfl, rfl, rfl, by show _ = _; rfl, rfl⟩
      case round =>
        obtain ⟨j, o, hj, rfl, rfl, rfl, HJ, rfl⟩ := hrel
        by_cases hlt2 : j < n
        · have hjI : (j : Int) < (n : Int) := by omega
          have hwj : IntKind.i64.wrap ((j : Int) + 1) = (j : Int) + 1 := IntWalk.i64_in _ (by omega)
          obtain ⟨g, off, rfl, hg, hcl⟩ := HR.out (by omega)
          obtain ⟨c, hx⟩ : ∃ x, L[j]? = some x := ⟨_, List.getElem?_eq_getElem (by have := HL.out; omega)⟩
          obtain ⟨u, c0, hu⟩ := hcl j c hx
          have HT := Lib.hid (someT_succ (X := i) (but := but) hx)
          have HIS := Lib.hid (lis_spec (X := i) (by omega) hu (by have := HC.out c (List.mem_of_getElem? hx); omega))
          obtain ⟨y, hy⟩ : ∃ y, isB (βN i) 0 c = y := ⟨_, rfl⟩
          rw [hy] at HT HIS
          have hjcap : j < cap := by omega
          rw [HJ.out] at HT
          clear hx hu hy HJ hcl
          cases o with
          | true =>
            have HN : Hid (someT i but L (j + 1) = true) := by rw [HT.out]; exact rfl
            clear HT HIS
            go_wp2_with fail
            go_roundg (n - (j + 1))
            case measure => omega
            case rel => exact ⟨j + 1, true, by omega, rfl, rfl, by go_num, HN, rfl⟩
          | false =>
            by_cases e : (j : Int) = but
            · have HN : Hid (someT i but L (j + 1) = false) := by rw [HT.out, decide_eq_false (fun h => h e)]; exact rfl
              have e1 : ((j : Int) != but) = false := by simp [e]
              clear HT HIS e
              go_wp2_with fail
              go_roundg (n - (j + 1))
              case measure => omega
              case rel => exact ⟨j + 1, false, by omega, rfl, rfl, by go_num, HN, rfl⟩
            · have HN : Hid (someT i but L (j + 1) = y) := by rw [HT.out, decide_eq_true e]; show (false || (true && y)) = y; cases y <;> rfl
              have e1 : ((j : Int) != but) = true := by simpa using e
              clear HT e
              go_wp2_with (go_at_call 17; refine HIS.out.mono ?_; rintro e wA ⟨rfl, rfl⟩)
              clear HIS
              go_roundg (n - (j + 1))
              case measure => omega
              case rel => exact ⟨j + 1, y, by omega, rfl, rfl, by go_num, HN, rfl⟩
        · obtain rfl : j = n := by omega
          have hjI : ¬ (j : Int) < (j : Int) := by omega
          by_cases eo : o = r
          · subst eo
            have HN : Hid (∀ X, X < i + 1 → someT X but L j = R X) := fun X hX => by
              rcases Nat.lt_or_eq_of_le (Nat.le_of_lt_succ hX) with h | h
              · exact HH.out X h
              · rw [h, HJ.out, HRI.out]
            clear HH HJ HRI
            cases o
            all_goals
              go_wp2_with fail
              go_roundg (m - (i + 1))
              case measure => omega
              case rel => exact ⟨i + 1, by omega, rfl, by go_num, HN, rfl⟩
          · have hres : res = false := by
              rw [← HB.out]
              unfold covT
              refine decide_eq_false fun h => ?_
              have := h i hlt
              rw [HL.out, HJ.out, HRI.out] at this
              exact eo this
            subst hres
            clear HH HJ HRI
            cases o <;> cases r
            all_goals first
              | exact absurd rfl eo
              | (go_wp2_with fail
                 go_ret
                 exact ⟨rfl, rfl⟩)
    · obtain rfl : i = m := by omega
      have hiI : ¬ (i : Int) < (i : Int) := by omega
      have hres : res = true := by
        rw [← HB.out]
        unfold covT
        rw [HL.out]
        exact decide_eq_true HH.out
      subst hres
      go_wp2_with fail
      go_ret
      exact ⟨rfl, rfl⟩
/-- A row of its own, one number of it anew. -/
theorem own_put {W : World} {base g cap k : Nat} {c : List Int} (h : W.ownsRow base 3 1 (.slice (some ⟨g, 0, none⟩) k cap) k (crow c).toList) (hk : c.length = k) {v : Nat} (hv : v < k) (x : Int) : ReadsI (W.setCell ⟨g, v, none⟩ (.int .i64 x)) (.slice (some ⟨g, 0, none⟩) k cap) (c.set v x) := by
  obtain ⟨hl, h | ⟨g', cap', cur, hv', _, hh, hle, _, hs, ht⟩⟩ := h
  · cases h.1
  · simp only [Value.slice.injEq, Option.some.injEq, Addr.mk.injEq, and_true] at hv'
    obtain ⟨rfl, _, rfl⟩ := hv'
    have hsz : cur.size = cap := by simpa using hs
    refine ⟨_, _, by rw [List.length_set, hk], by rw [List.length_set]; omega, fun _ => ⟨g, 0, rfl, ?_, fun j y hj => ?_⟩⟩
    · have := lt_of_heap hh; simp [World.setCell]; exact this
    · rw [Nat.zero_add, cell_of_heap (heap_set hh v (.int .i64 x))]
      have hjk : j < k := by have := (List.getElem?_eq_some_iff.1 hj).1; rw [List.length_set] at this; omega
      by_cases e : v = j
      · subst e
        rw [List.getElem?_set_self (by omega)] at hj
        simp only [Option.some.injEq] at hj
        subst hj
        rw [Array.getElem?_setIfInBounds_self_of_lt (by omega)]
      · rw [List.getElem?_set_ne e] at hj
        rw [Array.getElem?_setIfInBounds_ne e]
        have e2 : (cur.toList.take (k * 1))[j]? = (crow c).toList[j]? := by rw [ht]
        rw [List.getElem?_take_of_lt (by omega), Array.getElem?_toList, Array.getElem?_toList, crow_get hj] at e2
        exact e2
/-- Is a number in a cube, and none of a row's, among the first so many? -/
def beyT (c : List Int) (R : Nat → Bool) (j : Nat) : Bool := (List.range j).any fun X => isB (βN X) 0 c && !R X
theorem beyT_succ (c : List Int) (R : Nat → Bool) (j : Nat) : beyT c R (j + 1) = (beyT c R j || (isB (βN j) 0 c && !R j)) := by
  unfold beyT
  rw [List.range_succ, List.any_append]
  simp
theorem prime_spec {g k : Nat} {c : List Int} (h : CubeBlk W g c) (hk : c.length = k) (hk6 : k ≤ 6) {b m : Nat} {R : Nat → Bool} (hR : RowAt W b m R) (hm : m ≤ 64) (hp : ∀ (v : Nat) (x : Int), c[v]? = some x → 0 ≤ x → beyT (c.set v (-1)) R m = true) :
    Calls Try.prog 12 #[.slice (some ⟨g, 0, none⟩) k k, .slice (some ⟨b, 0, none⟩) m m] W fun e W' => e = .returned (.bool true) ∧ Hid (Keeps (fun _ => False) W W') := by
  obtain ⟨i0, hi0, hz0, hz1, hz2⟩ := info_parts iinfo
  have HC := Lib.hid h
  have HK := Lib.hid hk
  have HR := Lib.hid hR
  have HP := Lib.hid hp
  clear h hk hR hp
  go_enter Try.func12, Try.ntmps12
  go_wp2_with fail
  go_loopg [11] k (fun gg t wy => ∃ (i : Nat), i ≤ k ∧ gg = k - i ∧ t = .int .i64 i ∧ Hid (Keeps (fun _ => False) W wy))
  case atStart => exact ⟨0, Nat.zero_le _, rfl, rfl, Keeps.refl _ _⟩
  case round =>
    obtain ⟨v, hv, rfl, rfl, HW⟩ := hrel
    by_cases hlt : v < k
    · have hiI : (v : Int) < (k : Int) := by omega
      have hwi : IntKind.i64.wrap ((v : Int) + 1) = (v : Int) + 1 := IntWalk.i64_in _ (by omega)
      obtain ⟨x, hx⟩ : ∃ x, c[v]? = some x := ⟨_, List.getElem?_eq_getElem (by have := HK.out; omega)⟩
      have hblk : CubeBlk wr g c := (HW.out.block g (lt_of_heap HC.out) (fun x => x)).trans HC.out
      have hrow : RowAt wr b m R := HR.out.keeps HW.out (fun x => x)
      have c0 : wr.cell? ⟨g, v, none⟩ = some (.int .i64 x) := by rw [cell_of_heap hblk]; exact crow_get hx
      have HBL := Lib.hid hblk
      have HRW := Lib.hid hrow
      have HX := Lib.hid hx
      clear hx hblk hrow
      by_cases hx0 : x < 0
      · clear HBL HRW HX
        go_wp2_with fail
        go_roundg (k - (v + 1))
        case measure => omega
        case rel => exact ⟨v + 1, by omega, rfl, by go_num, HW⟩
      · have hx1 : 0 ≤ x := by omega
        have HPX := Lib.hid (HP.out v x HX.out hx1)
        clear HX
        have hal := (MapKept.heap_alloc wr (.cells #[] 3)).1
        have hka : Keeps (fun _ => False) wr (wr.alloc (.cells #[] 3)) := (Keeps.refl _ _).alloc _
        have hsz := hka.size
        have hown : (wr.alloc (.cells #[] 3)).ownsRow wr.heap.size 3 1 (.slice (some ⟨wr.heap.size, 0, none⟩) 0 0) 0 [] := ⟨by simp, .inr ⟨wr.heap.size, 0, #[], rfl, Nat.le_refl _, hal, Nat.le_refl _, by unfold maxLen; omega, by simp, by simp⟩⟩
        have hcell : ∀ (j : Nat) (u : Value), (crow c).toList[j]? = some u → (wr.alloc (.cells #[] 3)).cell? ((⟨g, 0, none⟩ : Addr).add j) = some u := fun j u hj => by
          have h2 : CubeBlk (wr.alloc (.cells #[] 3)) g c := (hka.block g (lt_of_heap HBL.out) (fun x => x)).trans HBL.out
          rw [Addr.add_lit, Nat.zero_add, cell_of_heap h2]
          rw [Array.getElem?_toList] at hj
          exact hj
        have hlen : (crow c).toList.length = k * 1 := by unfold crow; simp [HK.out]
        have hone : ∀ u ∈ (crow c).toList, u.oneCell' = true := fun u hu => by
          unfold crow at hu
          simp only [List.mem_map] at hu
          obtain ⟨y, _, rfl⟩ := hu
          rfl
        go_wp2_with (at_builtin; refine wpList_append_own _ rfl _ _ 27 rfl wr.heap.size 3 i0 (.int .i64 0) 1 8 Try.underlying27 hi0 hz0 hz1 hz2 rfl (by decide) _ 0 [] rfl hown ⟨g, 0, none⟩ k k (crow c).toList rfl hlen hcell hone ?c1 ?c2 hsz ?_)
        case c1 => unfold maxLen; omega
        case c2 => omega
        intro v2 w2 ho2 hg2 _
        have hk2 : Keeps (fun _ => False) wr w2 := hka.trans_new (keeps_grown hg2) (fun q hq e => by
          simp only [Value.ownBlock, Option.some.injEq] at e
          omega)
        obtain ⟨g2, cp2, cur, rfl, hg2b, hh2⟩ : ∃ g2 cp2 cur, v2 = .slice (some ⟨g2, 0, none⟩) k cp2 ∧ wr.heap.size ≤ g2 ∧ w2.heap[g2]? = some (.cells cur 3 (0, 0)) := by
          obtain ⟨_, h | ⟨g', cap', cur, hv', hb', hh, _⟩⟩ := ho2
          · exact absurd h.2 (by omega)
          · exact ⟨g', cap', cur, hv', hb', hh⟩
        have hcp2 : v < cp2 := by
          obtain ⟨_, h | ⟨g', cap', cur', hv', _, _, hle, _⟩⟩ := ho2
          · exact absurd h.2 (by omega)
          · simp only [Value.slice.injEq, Option.some.injEq, Addr.mk.injEq, and_true] at hv'
            obtain ⟨_, _, rfl⟩ := hv'
            omega
        have f1 : w2.frozen? ⟨g2, v, none⟩ = false := Lib.frozen_of_heap hh2 v
        have hc2 : ∃ y, w2.cell? ⟨g2, v, none⟩ = some y := by
          obtain ⟨_, h | ⟨g', cap', cur', hv', _, hh, hle, _, hs, _⟩⟩ := ho2
          · exact absurd h.2 (by omega)
          · simp only [Value.slice.injEq, Option.some.injEq, Addr.mk.injEq, and_true] at hv'
            obtain ⟨rfl, _, rfl⟩ := hv'
            have : cur'.size = cp2 := by simpa using hs
            exact ⟨_, by rw [cell_of_heap hh]; exact Array.getElem?_eq_getElem (by omega)⟩
        obtain ⟨y2, d0⟩ := hc2
        have HRD := Lib.hid (own_put ho2 HK.out hlt (-1))
        have HK3 : Hid (Keeps (fun _ => False) wr (w2.setCell ⟨g2, v, none⟩ (.int .i64 (-1)))) := hk2.trans_new (Keeps.setCell (S := fun y => y = g2) (Keeps.refl _ _) (p := ⟨g2, v, none⟩) (fun _ => rfl) _) (fun q hq e => by omega)
        clear ho2 hg2 hk2 hh2 hown hcell hlen hone hal hka c0
        go_upto_region 8 with fail
        generalize (w2.setCell ⟨g2, v, none⟩ (.int .i64 (-1))) = w3 at *
        have HRW3 := Lib.hid (HRW.out.keeps HK3.out (fun x => x))
        clear d0 f1
        go_wp2_with fail
        go_loopg [7, 27] m (fun gg s t wy => ∃ (j : Nat) (o : Bool), j ≤ m ∧ gg = m - j ∧ s = .bool o ∧ t = .int .i64 j ∧ Hid (beyT (c.set v (-1)) R j = o) ∧ wy = w3)
        case atStart => exact ⟨0, false, Nat.zero_le _, rfl, rfl, rfl, by show _ = _; rfl, rfl⟩
        case round =>
          obtain ⟨j, o, hj, rfl, rfl, rfl, HJ, rfl⟩ := hrel
          by_cases hlt2 : j < m
          · have hjI : (j : Int) < (m : Int) := by omega
            have hwj : IntKind.i64.wrap ((j : Int) + 1) = (j : Int) + 1 := IntWalk.i64_in _ (by omega)
            have hrow := HRW3.out.cell hlt2
            have HT := Lib.hid (beyT_succ (c.set v (-1)) R j)
            have HIS := Lib.hid (lis_spec (X := j) (by omega) HRD.out (by rw [List.length_set]; have := HK.out; omega))
            obtain ⟨y, hy⟩ : ∃ y, isB (βN j) 0 (c.set v (-1)) = y := ⟨_, rfl⟩
            obtain ⟨r, hr⟩ : ∃ r, R j = r := ⟨_, rfl⟩
            rw [hr] at hrow
            rw [hy, hr, HJ.out] at HT
            rw [hy] at HIS
            clear hy hr HJ
            cases o with
            | true =>
              have HN : Hid (beyT (c.set v (-1)) R (j + 1) = true) := by rw [HT.out]; exact rfl
              clear HT HIS
              go_wp2_with fail
              go_roundg (m - (j + 1))
              case measure => omega
              case rel => exact ⟨j + 1, true, by omega, rfl, rfl, by go_num, HN, rfl⟩
            | false =>
              cases y with
              | false =>
                have HN : Hid (beyT (c.set v (-1)) R (j + 1) = false) := by rw [HT.out]; exact rfl
                clear HT
                go_wp2_with (go_at_call 17; refine HIS.out.mono ?_; rintro e wA ⟨rfl, rfl⟩)
                clear HIS
                go_roundg (m - (j + 1))
                case measure => omega
                case rel => exact ⟨j + 1, false, by omega, rfl, rfl, by go_num, HN, rfl⟩
              | true =>
                cases r
                · have HN : Hid (beyT (c.set v (-1)) R (j + 1) = true) := by rw [HT.out]; exact rfl
                  clear HT
                  go_wp2_with (go_at_call 17; refine HIS.out.mono ?_; rintro e wA ⟨rfl, rfl⟩)
                  clear HIS
                  go_roundg (m - (j + 1))
                  case measure => omega
                  case rel => exact ⟨j + 1, true, by omega, rfl, rfl, by go_num, HN, rfl⟩
                · have HN : Hid (beyT (c.set v (-1)) R (j + 1) = false) := by rw [HT.out]; exact rfl
                  clear HT
                  go_wp2_with (go_at_call 17; refine HIS.out.mono ?_; rintro e wA ⟨rfl, rfl⟩)
                  clear HIS
                  go_roundg (m - (j + 1))
                  case measure => omega
                  case rel => exact ⟨j + 1, false, by omega, rfl, rfl, by go_num, HN, rfl⟩
          · obtain rfl : j = m := by omega
            have hjI : ¬ (j : Int) < (j : Int) := by omega
            have ho : o = true := by rw [← HJ.out]; exact HPX.out
            subst ho
            have HKN : Hid (Keeps (fun _ => False) W wr) := HW.out.trans HK3.out
            clear HJ HPX HK3 HRW3 HRD HW
            go_wp2_with fail
            go_roundg (k - (v + 1))
            case measure => omega
            case rel => exact ⟨v + 1, by omega, rfl, by go_num, HKN⟩
    · obtain rfl : v = k := by omega
      have hiI : ¬ (v : Int) < (v : Int) := by omega
      go_wp2_with fail
      go_ret
      exact ⟨rfl, HW⟩
end
end Go.Proofs.Ytloidoekmicloaa
