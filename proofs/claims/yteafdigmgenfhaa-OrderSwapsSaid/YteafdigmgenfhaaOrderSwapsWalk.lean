/-
  The walk of the law OrderSwaps.
-/
import Derived.Test.YteafdigmgenfhaaOrdBits
import Derived.Test.YteafdigmgenfhaaOrdLives
set_option linter.unusedVariables false
set_option linter.unusedSimpArgs false
set_option linter.unnecessarySimpa false
namespace Go.Proofs.Yteafdigmgenfhaa
open Go.ChangeShapes Go.WideShapes Go.ChangeAt Go.RowKit Go.Deep NodePlain
theorem sw_val (n : Nat) (i : Int) {k : Nat} (hk : k < n) : ∃ v : Nat, v < n ∧ swF n i k = v ∧ swF n i v = k := by
  unfold swF
  by_cases h : 0 ≤ i ∧ i < (n : Int) - 1
  · obtain ⟨p, rfl⟩ := Int.eq_ofNat_of_zero_le h.1
    rw [if_pos h]
    by_cases e1 : k = p
    · subst e1
      exact ⟨k + 1, by omega, by rw [if_pos rfl]; simp, by rw [if_pos h, if_neg (by omega), if_pos (by omega)]⟩
    · by_cases e2 : k = p + 1
      · subst e2
        exact ⟨p, by omega, by rw [if_neg (by omega), if_pos (by omega)], by rw [if_pos h, if_pos rfl]; simp⟩
      · exact ⟨k, hk, by rw [if_neg (by omega), if_neg (by omega)], by rw [if_pos h, if_neg (by omega), if_neg (by omega)]⟩
  · rw [if_neg h]
    exact ⟨k, hk, rfl, by rw [if_neg h]⟩
def swL (n : Nat) (i : Int) : List Int := (List.range n).map (swF n i)
theorem swL_get {n : Nat} {i : Int} {j : Nat} {x : Int} (h : (swL n i)[j]? = some x) : j < n ∧ x = swF n i j := by
  unfold swL at h
  rw [List.getElem?_map] at h
  rcases Nat.lt_or_ge j n with h1 | h1
  · rw [List.getElem?_range h1] at h
    simp only [Option.map_some, Option.some.injEq] at h
    exact ⟨h1, h.symm⟩
  · rw [List.getElem?_eq_none (by simpa using h1)] at h; cases h
theorem swL_at {n : Nat} {i : Int} {j : Nat} (h : j < n) : (swL n i)[j]? = some (swF n i j) := by
  unfold swL
  rw [List.getElem?_map, List.getElem?_range h]; rfl
theorem swL_len (n : Nat) (i : Int) : (swL n i).length = n := by simp [swL]
theorem swL_ord {n : Nat} (hn : n ≤ 61) (i : Int) : ordB n (swL n i) = true := by
  rw [ordB_iff]
  refine ⟨by omega, by omega, by rw [swL_len], fun x hx => ?_, List.pairwise_iff_getElem.2 fun a b ha hb hab e => ?_⟩
  · obtain ⟨j, hj, e⟩ := List.mem_iff_getElem.1 hx
    obtain ⟨h1, h2⟩ := swL_get (i := i) (List.getElem?_eq_getElem hj)
    obtain ⟨v, hv, e2, _⟩ := sw_val n i h1
    rw [← e, h2, e2]
    omega
  · obtain ⟨a1, a2⟩ := swL_get (i := i) (List.getElem?_eq_getElem ha)
    obtain ⟨b1, b2⟩ := swL_get (i := i) (List.getElem?_eq_getElem hb)
    obtain ⟨u, _, e2, e3⟩ := sw_val n i a1
    obtain ⟨v, _, e4, e5⟩ := sw_val n i b1
    rw [a2, b2, e2, e4] at e
    have : u = v := by omega
    subst this
    rw [e3] at e5
    omega
/-- Twice it is as if nothing was. -/
theorem sw_twice {n : Nat} {i : Int} {F : Nat → Int} (h : Behind (swL n i) (swL n i) F n) : (List.range n).map F = (List.range n).map (swF n (-1)) := by
  refine List.map_congr_left fun j hj => ?_
  have hj := List.mem_range.1 hj
  obtain ⟨v, hv, e1, e2⟩ := sw_val n i hj
  have := h j v (swF n i v) hj (by rw [swL_at hj, e1]) (swL_at hv)
  rw [this, e2]
  unfold swF
  rw [if_neg (by omega)]
theorem sw_back {n : Nat} {i : Int} {F : Nat → Int} (h : Undoes (swL n i) F n) : (List.range n).map F = swL n i := by
  refine List.map_congr_left fun v hv => ?_
  have hv := List.mem_range.1 hv
  obtain ⟨j, hj, e1, e2⟩ := sw_val n i hv
  have := h j v hj (by rw [swL_at hj, e2])
  rw [this, e1]
set_option maxRecDepth 100000
set_option maxHeartbeats 3200000
theorem orderSwaps_walk (w : World) (vars : Int) (hv0 : -9223372036854775808 ≤ vars) (hv1 : vars ≤ 9223372036854775807) (i : Int) (hi0 : -9223372036854775808 ≤ i) (hi1 : i ≤ 9223372036854775807) :
    Calls Try.prog 4 #[.int .i64 vars, .int .i64 i] w fun e w' => e = .returned (.bool true) ∧ Below w.heap.size w w' := by
  have HL := Lib.hid lives37_any
  by_cases hbad : vars < 0 ∨ 61 < vars
  · have HS := Lib.hid (swap_no (W := w) (i := i) hbad)
    by_cases h0 : vars < 0
    · clear hbad
      go_enter Try.func4, Try.ntmps4
      go_wp2_with fail
      refine HS.out.mono ?_
      rintro e w' ⟨rfl, rfl⟩
      go_wp2_with fail
      refine (HL.out _).mono ?_
      rintro e w' ⟨rfl, hb⟩
      go_wp2_with fail
      go_ret
      exact ⟨rfl, hb⟩
    · have h1 : 61 < vars := by omega
      clear hbad
      go_enter Try.func4, Try.ntmps4
      go_wp2_with fail
      refine HS.out.mono ?_
      rintro e w' ⟨rfl, rfl⟩
      go_wp2_with fail
      refine (HL.out _).mono ?_
      rintro e w' ⟨rfl, hb⟩
      go_wp2_with fail
      go_ret
      exact ⟨rfl, hb⟩
  · obtain ⟨n, rfl⟩ := Int.eq_ofNat_of_zero_le (show 0 ≤ vars by omega)
    have hn61 : n ≤ 61 := by omega
    have hg0 : ¬ (n : Int) < 0 := by omega
    have hg1 : ¬ 61 < (n : Int) := by omega
    have hg2 : ¬ 61 < n := by omega
    have HS := Lib.hid (swap_spec (W := w) (n := n) hn61 hi0 hi1)
    have hw : IntKind.i64.wrap ((n : Int) - 1) = (n : Int) - 1 := IntWalk.i64_in _ (by omega)
    clear hbad hv0 hv1
    go_enter Try.func4, Try.ntmps4
    go_wp2_with fail
    refine HS.out.mono ?_
    rintro e w1 ⟨b, rfl, hb⟩
    have HB := Lib.hid hb.out
    clear hb HS
    go_wp2_with fail
    go_loopg [25] n (fun g t wy => ∃ k : Nat, k ≤ n ∧ g = n - k ∧ t = .int .i64 k ∧ wy = w1)
    case atStart => exact ⟨0, Nat.zero_le _, rfl, rfl, rfl⟩
    case round =>
      obtain ⟨k, hk, rfl, rfl, rfl⟩ := hrel
      by_cases hlt : k < n
      · have hkI : (k : Int) < (n : Int) := by omega
        have hwk : IntKind.i64.wrap ((k : Int) + 1) = (k : Int) + 1 := IntWalk.i64_in _ (by omega)
        have c := HB.out.2.2.cell hlt
        by_cases h0 : i < 0
        · have e : swF n i k = k := by unfold swF; rw [if_neg (by omega)]
          rw [e] at c
          have h0' : ¬ 0 ≤ i := by omega
          clear e
          go_wp2_with fail
          go_roundg (n - (k + 1))
          case measure => omega
          case rel => exact ⟨k + 1, by omega, rfl, by go_num, rfl⟩
        have h0' : 0 ≤ i := by omega
        by_cases h1 : i < (n : Int) - 1
        · obtain ⟨p, rfl⟩ := Int.eq_ofNat_of_zero_le h0'
          have hc : 0 ≤ (p : Int) ∧ (p : Int) < (n : Int) - 1 := ⟨h0', h1⟩
          have hwp : IntKind.i64.wrap ((p : Int) + 1) = (p : Int) + 1 := IntWalk.i64_in _ (by omega)
          by_cases e1 : k = p
          · subst e1
            have e : swF n k k = (k : Int) + 1 := by unfold swF; rw [if_pos hc, if_pos rfl]
            rw [e] at c
            have b2 : ((k : Int) == (k : Int) + 1) = false := by simp; omega
            clear e hc
            go_wp2_with fail
            go_roundg (n - (k + 1))
            case measure => omega
            case rel => exact ⟨k + 1, by omega, rfl, by go_num, rfl⟩
          · have b1 : ((k : Int) == (p : Int)) = false := by simp; omega
            have b1n : (k == p) = false := by simp; omega
            by_cases e2 : k = p + 1
            · subst e2
              have e : swF n p ((p + 1 : Nat)) = (p : Int) := by unfold swF; rw [if_pos hc, if_neg (by omega), if_pos (by omega)]
              rw [e] at c
              have hwm : IntKind.i64.wrap ((p : Int) + 1 - 1) = (p : Int) := (IntWalk.i64_in _ (by omega)).trans (by omega)
              clear e hc
              go_wp2_with fail
              go_roundg (n - (p + 1 + 1))
              case measure => omega
              case rel => exact ⟨p + 1 + 1, by omega, rfl, by go_num, rfl⟩
            · have e : swF n p k = (k : Int) := by unfold swF; rw [if_pos hc, if_neg (by omega), if_neg (by omega)]
              rw [e] at c
              have b2 : ((k : Int) == (p : Int) + 1) = false := by simp; omega
              clear e hc
              go_wp2_with fail
              go_roundg (n - (k + 1))
              case measure => omega
              case rel => exact ⟨k + 1, by omega, rfl, by go_num, rfl⟩
        · have e : swF n i k = k := by unfold swF; rw [if_neg (by omega)]
          rw [e] at c
          clear e
          go_wp2_with fail
          go_roundg (n - (k + 1))
          case measure => omega
          case rel => exact ⟨k + 1, by omega, rfl, by go_num, rfl⟩
      · have hkI : ¬ (k : Int) < (n : Int) := by omega
        have HT : Hid (Calls Try.prog 7 #[.slice (some ⟨b, 0, none⟩) n n, .slice (some ⟨b, 0, none⟩) n n] wr fun e W' => ∃ F, Hid (Behind (swL n i) (swL n i) F n) ∧ IPost n F wr e W') :=
          then_yes HB.out.2.2.reads HB.out.2.2.reads (swL_len n i) (swL_len n i) (by omega) (swL_ord hn61 i) (swL_ord hn61 i)
        clear hk hlt
        go_wp2_with fail
        refine HT.out.mono ?_
        rintro e w2 ⟨F, hF, b2, rfl, h2⟩
        have HS2 := Lib.hid (swap_spec (W := w2) (n := n) (i := -1) hn61 (by omega) (by omega))
        clear HT
        go_wp2_with fail
        refine HS2.out.mono ?_
        rintro e w3 ⟨b3, rfl, h3⟩
        have HC : Hid (Calls Try.prog 12 #[.slice (some ⟨b2, 0, none⟩) n n, .slice (some ⟨b3, 0, none⟩) n n] w3 fun e w' => e = .returned (.bool true) ∧ ∃ nq, w' = w3.drewN nq) := by
          refine isame_spec (h2.out.2.2.keeps h3.out.2.1 (fun x => x)).reads h3.out.2.2.reads ?_ ?_ (sw_twice hF.out) <;> simp <;> omega
        clear HS2
        go_wp2_with fail
        refine HC.out.mono ?_
        rintro e w4 ⟨rfl, nq, rfl⟩
        have k4 : Keeps (fun _ => False) wr (w3.drewN nq) := (h2.out.2.1.trans h3.out.2.1).drewN nq
        generalize w3.drewN nq = w4 at *
        have h4 := HB.out.2.2.keeps k4 (fun x => x)
        have HBK : Hid (Calls Try.prog 6 #[.slice (some ⟨b, 0, none⟩) n n] w4 fun e W' => ∃ F, Hid (Undoes (swL n i) F n) ∧ IPost n F w4 e W') :=
          back_yes h4.reads (swL_len n i) (by omega) (swL_ord hn61 i)
        have K4 := Lib.hid k4
        have H4 := Lib.hid h4
        clear HC h2 h3 k4 h4
        go_wp2_with fail
        refine HBK.out.mono ?_
        rintro e w5 ⟨G, hG, b5, rfl, h5⟩
        have HC2 : Hid (Calls Try.prog 12 #[.slice (some ⟨b5, 0, none⟩) n n, .slice (some ⟨b, 0, none⟩) n n] w5 fun e w' => e = .returned (.bool true) ∧ ∃ nq, w' = w5.drewN nq) := by
          refine isame_spec h5.out.2.2.reads (H4.out.keeps h5.out.2.1 (fun x => x)).reads ?_ ?_ (sw_back hG.out) <;> simp <;> omega
        clear HBK
        go_wp2_with fail
        refine HC2.out.mono ?_
        rintro e w6 ⟨rfl, mq, rfl⟩
        have k6 : Keeps (fun _ => False) wr (w5.drewN mq) := (K4.out.trans h5.out.2.1).drewN mq
        have HK6 : Hid (Keeps (fun _ => False) w (w5.drewN mq)) := HB.out.2.1.trans k6
        generalize w5.drewN mq = w6 at *
        clear HC2 h5 k6
        go_wp2_with fail
        refine (HL.out _).mono ?_
        rintro e w7 ⟨rfl, hb⟩
        go_wp2_with fail
        go_ret
        exact ⟨rfl, (HK6.out.below (Nat.le_refl _) (fun _ _ x => x)).trans (hb.mono HK6.out.size)⟩
end Go.Proofs.Yteafdigmgenfhaa
