/-
  Where a text is in a table: the library's search in halves, and Find.
-/
import Derived.Test.YtonkfkgbmlcceaaNameMem
set_option linter.unusedVariables false
set_option linter.unusedSimpArgs false
set_option linter.unnecessarySimpa false
namespace Go.Proofs.Ytonkfkgbmlcceaa
open Go.ChangeShapes Go.WideShapes Go.ChangeAt Go.RowKit Go.Deep
set_option maxRecDepth 100000
set_option maxHeartbeats 3200000
theorem cnan_spec (s : ByteArray) (w : World) : Calls Try.prog 51 #[.string s] w fun e w' => e = .returned (.bool false) ∧ w = w' := by
  go_enter Try.func51, Try.ntmps51
  go_wp2_with fail
  go_ret
  exact ⟨by simp, rfl⟩
theorem snan_spec (s : ByteArray) (w : World) : Calls Try.prog 40 #[.string s] w fun e w' => e = .returned (.bool false) ∧ w = w' := by
  go_enter Try.func40, Try.ntmps40
  go_wp2_with fail
  go_ret
  exact ⟨by simp, rfl⟩
theorem cless_spec (x y : Str) (w : World) : Calls Try.prog 39 #[.string ⟨x.toArray⟩, .string ⟨y.toArray⟩] w fun e w' => e = .returned (.bool (decide (x < y))) ∧ w = w' := by
  have HN := Lib.hid (fun s w => cnan_spec s w)
  go_enter Try.func39, Try.ntmps39
  go_wp2_with fail
  refine (HN.out _ _).mono ?_
  rintro e w' ⟨rfl, rfl⟩
  go_wp2_with fail
  go_ret
  refine ⟨?_, rfl⟩
  rw [← Go.Proofs.bytesLess_eq]
  rfl
/-- The search in halves, of a row that rises. -/
theorem bsearch_spec {W : World} {v : Value} {L : List Str} (h : ReadsS W v L) (hr : L.Pairwise (· < ·)) (hn : L.length ≤ 100000) (s : Str) :
    Calls Try.prog 30 #[v, .string ⟨s.toArray⟩] W fun e W' => ∃ i : Nat, e = .returned (.tuple #[.int .i64 (i : Int), .bool (decide (s ∈ L))]) ∧ (s ∈ L → atL L s = (i : Int)) ∧ W = W' := by
  obtain ⟨ao, cap, rfl, hle, hc⟩ := h
  obtain ⟨n, hln⟩ : ∃ n, L.length = n := ⟨_, rfl⟩
  rw [hln] at hle hc hn ⊢
  have HC := Lib.hid hc
  have HR := Lib.hid hr
  have HL := Lib.hid hln
  have HLE : Hid (∀ (x y : Str) (w : World), Calls Try.prog 39 #[.string ⟨x.toArray⟩, .string ⟨y.toArray⟩] w fun e w' => e = .returned (.bool (decide (x < y))) ∧ w = w') := cless_spec
  have HNA := Lib.hid (fun s w => snan_spec s w)
  clear hc hr hln
  go_enter Try.func30, Try.ntmps30
  go_wp2_with fail
  go_loopg [7, 8] n (fun g s7 s8 wr => ∃ lo hi : Nat, s7 = .int .i64 lo ∧ s8 = .int .i64 hi ∧ lo ≤ hi ∧ hi ≤ n ∧ hi - lo ≤ g ∧ wr = W ∧ Hid ((∀ t x, L[t]? = some x → t < lo → x < s) ∧ (∀ t x, L[t]? = some x → hi ≤ t → s ≤ x)))
  case atStart => exact ⟨0, n, rfl, rfl, Nat.zero_le _, Nat.le_refl _, by omega, rfl, fun t x _ ht => absurd ht (Nat.not_lt_zero _), fun t x hx h1 => by
    have := HL.out
    rw [List.getElem?_eq_none (by omega)] at hx; cases hx⟩
  case round =>
    obtain ⟨lo, hi, rfl, rfl, hlh, hin, hg, rfl, HI⟩ := hrel
    by_cases hlt : lo < hi
    · have hltI : (lo : Int) < (hi : Int) := by omega
      obtain ⟨y, hy⟩ : ∃ y, L[(lo + hi) / 2]? = some y := ⟨_, List.getElem?_eq_getElem (by rw [HL.out]; omega)⟩
      obtain ⟨g0, off, rfl, hg0, hcell⟩ := HC.out (by omega)
      have cm : wr.cell? ⟨g0, off + (lo + hi) / 2, none⟩ = some (.string ⟨y.toArray⟩) := hcell _ _ hy
      have HY := Lib.hid hy
      have hmc : (lo + hi) / 2 < cap := by omega
      clear hy hcell
      obtain ⟨b, hb⟩ : ∃ b, decide (y < s) = b := ⟨_, rfl⟩
      have HB := Lib.hid hb
      have HLY := Lib.hid (HLE.out y s wr)
      rw [hb] at HLY
      clear hb
      cases b with
      | true =>
        have hys : y < s := of_decide_eq_true HB.out
        have HN : Hid ((∀ t x, L[t]? = some x → t < (lo + hi) / 2 + 1 → x < s) ∧ (∀ t x, L[t]? = some x → hi ≤ t → s ≤ x)) := ⟨fun t x hx ht => by
          rcases Nat.lt_or_eq_of_le (Nat.le_of_lt_succ ht) with q | q
          · exact str_trans (rises_get HR.out hx HY.out q) hys
          · subst q
            have := HY.out
            rw [hx] at this
            obtain rfl := Option.some.inj this
            exact hys, HI.out.2⟩
        clear HI HB HY hys
        go_wp2_with fail
        refine HLY.out.mono ?_
        rintro e w' ⟨rfl, rfl⟩
        go_wp2_with fail
        go_roundg (hi - ((lo + hi) / 2 + 1))
        case measure => omega
        case rel => exact ⟨(lo + hi) / 2 + 1, hi, by rw [show ((lo : Int) + (hi : Int)) / 2 + 1 = (((lo + hi) / 2 + 1 : Nat) : Int) by omega], rfl, by omega, hin, Nat.le_refl _, rfl, HN⟩
      | false =>
        have hys : ¬ y < s := of_decide_eq_false HB.out
        have HN : Hid ((∀ t x, L[t]? = some x → t < lo → x < s) ∧ (∀ t x, L[t]? = some x → (lo + hi) / 2 ≤ t → s ≤ x)) := ⟨HI.out.1, fun t x hx ht => by
          have hsy : s ≤ y := List.not_lt.1 hys
          rcases Nat.lt_or_eq_of_le ht with q | q
          · exact str_le.2 (.inl (str_le_lt hsy (rises_get HR.out HY.out hx q)))
          · subst q
            have := HY.out
            rw [hx] at this
            obtain rfl := Option.some.inj this
            exact hsy⟩
        clear HI HB HY hys
        go_wp2_with fail
        refine HLY.out.mono ?_
        rintro e w' ⟨rfl, rfl⟩
        go_wp2_with fail
        go_roundg ((lo + hi) / 2 - lo)
        case measure => omega
        case rel => exact ⟨lo, (lo + hi) / 2, rfl, by rw [show ((lo : Int) + (hi : Int)) / 2 = (((lo + hi) / 2 : Nat) : Int) by omega], by omega, by omega, Nat.le_refl _, rfl, HN⟩
    · obtain rfl : lo = hi := by omega
      have hltI : ¬ (lo : Int) < (lo : Int) := by omega
      by_cases hn2 : lo < n
      · have hnI : (lo : Int) < (n : Int) := by omega
        obtain ⟨y, hy⟩ : ∃ y, L[lo]? = some y := ⟨_, List.getElem?_eq_getElem (by rw [HL.out]; exact hn2)⟩
        obtain ⟨g0, off, rfl, hg0, hcell⟩ := HC.out (by omega)
        have cm : wr.cell? ⟨g0, off + lo, none⟩ = some (.string ⟨y.toArray⟩) := hcell _ _ hy
        have hmc : lo < cap := by omega
        have hsy := HI.out.2 lo y hy (Nat.le_refl _)
        by_cases hys : y = s
        · subst hys
          have HE : Hid (decide (y ∈ L) = true ∧ atL L y = (lo : Int)) := ⟨decide_eq_true (List.mem_of_getElem? hy), at_get HR.out hy⟩
          clear HI hy hcell hsy
          go_wp2_with fail
          first | go_ret | go_ret2
          refine ⟨lo, ?_, fun _ => HE.out.2, rfl⟩
          rw [HE.out.1]
          first | rfl | simp
        · have hbe : (y == s) = false := beq_eq_false_iff_ne.2 hys
          have HE : Hid (s ∉ L) := fun hm => by
            obtain ⟨t, ht, he⟩ := List.mem_iff_getElem.1 hm
            have htx : L[t]? = some s := by rw [List.getElem?_eq_getElem ht, he]
            rcases Nat.lt_trichotomy t lo with q | q | q
            · exact str_irrefl s (HI.out.1 t s htx q)
            · subst q
              rw [htx] at hy
              exact hys (Option.some.inj hy).symm
            · exact str_irrefl s (str_le_lt hsy (rises_get HR.out hy htx q))
          have HNY := Lib.hid (HNA.out ⟨y.toArray⟩ wr)
          clear HI hy hcell hsy hys
          go_wp2_with fail
          refine HNY.out.mono ?_
          rintro e w' ⟨rfl, rfl⟩
          go_wp2_with fail
          first | go_ret | go_ret2
          refine ⟨lo, ?_, fun h => absurd h HE.out, rfl⟩
          rw [decide_eq_false HE.out]
          first | rfl | simp
      · obtain rfl : lo = n := by omega
        have HE : Hid (s ∉ L) := fun hm => by
          obtain ⟨t, ht, he⟩ := List.mem_iff_getElem.1 hm
          have htx : L[t]? = some s := by rw [List.getElem?_eq_getElem ht, he]
          exact str_irrefl s (HI.out.1 t s htx (by rw [← HL.out]; exact ht))
        clear HI
        go_wp2_with fail
        first | go_ret | go_ret2
        refine ⟨lo, ?_, fun h => absurd h HE.out, rfl⟩
        rw [decide_eq_false HE.out]
        first | rfl | simp
/-- Where a text is in a table. -/
theorem names_find {W : World} {p : Nat} {L : List Str} (h : Tab W p L) (hr : L.Pairwise (· < ·)) (hn : L.length ≤ 100000) (s : Str) :
    Calls Try.prog 15 #[.pointer (some ⟨p, 0, none⟩), .string ⟨s.toArray⟩] W fun e W' => e = .returned (.int .i64 (atL L s)) ∧ W = W' := by
  obtain ⟨v, h1, h2, h3⟩ := h
  have HB := Lib.hid (bsearch_spec h3 hr hn s)
  clear h3
  go_enter Try.func15, Try.ntmps15
  go_wp2_with fail
  refine HB.out.mono ?_
  rintro e w' ⟨i, rfl, hi, rfl⟩
  by_cases hm : s ∈ L
  · have hd : decide (s ∈ L) = true := decide_eq_true hm
    rw [hd]
    have HE := Lib.hid (hi hm)
    clear hi HB
    go_wp2_with fail
    go_ret
    exact ⟨by rw [HE.out]; rfl, rfl⟩
  · have hd : decide (s ∈ L) = false := decide_eq_false hm
    rw [hd]
    have HE := Lib.hid (at_out hm)
    clear hi HB
    go_wp2_with fail
    go_ret
    exact ⟨by rw [HE.out]; rfl, rfl⟩
end Go.Proofs.Ytonkfkgbmlcceaa
