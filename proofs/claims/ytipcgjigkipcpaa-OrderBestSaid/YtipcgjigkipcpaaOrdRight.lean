/-
  Which rows are orders: the program's answer and the statement's.
-/
import Derived.Test.YtipcgjigkipcpaaOrdPlain
import Derived.Test.YtipcgjigkipcpaaNodeAt
import Derived.Deep.LoopGhost
import Derived.BigQuiet
set_option linter.unusedVariables false
set_option linter.unusedSimpArgs false
set_option linter.unnecessarySimpa false
namespace Go.Proofs.Ytipcgjigkipcpaa
open Go.ChangeShapes Go.WideShapes Go.ChangeAt Go.RowKit Go.Deep NodePlain
/-- A slice that reads as numbers. -/
def ReadsI (w : World) (v : Value) (l : List Int) : Prop :=
  ∃ ao cap, v = .slice ao l.length cap ∧ l.length ≤ cap ∧ (0 < l.length → ∃ g off, ao = some ⟨g, off, none⟩ ∧ g < w.heap.size ∧ ∀ (j : Nat) (x : Int), l[j]? = some x → w.cell? ⟨g, off + j, none⟩ = some (.int .i64 x))
theorem ReadsI.keeps {w w' : World} {v : Value} {l : List Int} (h : ReadsI w v l) (hk : Keeps (fun _ => False) w w') : ReadsI w' v l := by
  obtain ⟨ao, cap, hv, hle, hr⟩ := h
  refine ⟨ao, cap, hv, hle, fun h0 => ?_⟩
  obtain ⟨g, off, h1, h2, h3⟩ := hr h0
  exact ⟨g, off, h1, Nat.lt_of_lt_of_le h2 hk.size, fun j x hj => (hk.cell (p := ⟨g, off + j, none⟩) h2 (fun x => x)).trans (h3 j x hj)⟩
theorem pow_bit {v : Nat} (hv : v < 61) : IntKind.u64.wrap ((2 : Int) ^ v) = ((2 ^ v : Nat) : Int) := by
  have h : 2 ^ v < 2 ^ 61 := Nat.pow_lt_pow_right (by decide) hv
  have e : ((2 : Int) ^ v) = ((2 ^ v : Nat) : Int) := by simp
  rw [e]
  generalize 2 ^ v = Z at h
  exact IntWalk.u64_in _ (by omega)
set_option maxRecDepth 100000
set_option maxHeartbeats 1600000
theorem oright_spec {W : World} {vars : Int} (hv0 : -9223372036854775808 ≤ vars) (hv1 : vars ≤ 9223372036854775807) {v : Value} {l : List Int} (h : ReadsI W v l) (hl : 0 ≤ l.length) :
    Calls Try.prog 68 #[.int .i64 vars, v] W fun e W' => e = .returned (.bool (ordB vars l)) ∧ W = W' := by
  obtain ⟨ao, cap, rfl, hcap, hr⟩ := h
  by_cases h0 : vars < 0
  · have hB : ordB vars l = false := ordB_not fun h => by omega
    rw [hB]
    go_enter Try.func68, Try.ntmps68
    go_wp2_with fail
    go_ret
    exact ⟨rfl, rfl⟩
  by_cases h1 : 61 < vars
  · have hB : ordB vars l = false := ordB_not fun h => by omega
    rw [hB]
    go_enter Try.func68, Try.ntmps68
    go_wp2_with fail
    go_ret
    exact ⟨rfl, rfl⟩
  obtain ⟨n, rfl⟩ := Int.eq_ofNat_of_zero_le (show 0 ≤ vars by omega)
  have hn61 : n ≤ 61 := by omega
  by_cases h2 : l.length = n
  · have h2b : ((l.length : Int) == (n : Int)) = true := by simp [h2]
    rw [h2] at hcap hr hl ⊢
    have HL := Lib.hid h2
    have HR := Lib.hid hr
    have HS := Lib.hid (Had.start l n)
    obtain ⟨res, hres⟩ : ∃ res, ordB n l = res := ⟨_, rfl⟩
    rw [hres]
    have HB := Lib.hid hres
    clear hr hres h2 h2b
    go_enter Try.func68, Try.ntmps68
    go_wp2_with fail
    go_loopg [5, 22] n (fun g s t wy => ∃ (i M : Nat), i ≤ n ∧ g = n - i ∧ s = .int .u64 M ∧ t = .int .i64 i ∧ Hid (Had l n i M) ∧ wy = W)
    case atStart => exact ⟨0, 0, Nat.zero_le _, rfl, rfl, rfl, HS.out, rfl⟩
    case round =>
      clear HS
      obtain ⟨i, M, hi, rfl, rfl, rfl, HH, rfl⟩ := hrel
      by_cases hlt : i < n
      · have hiI : (i : Int) < (n : Int) := by omega
        obtain ⟨b, off, rfl, hb, hc⟩ := HR.out (by omega)
        obtain ⟨x, hx⟩ : ∃ x, l[i]? = some x := ⟨_, List.getElem?_eq_getElem (by have := HL.out; omega)⟩
        have c := hc i x hx
        have HX := Lib.hid hx
        have hicap : i < cap := by omega
        clear hc hx
        by_cases hx0 : x < 0
        · have hres : res = false := by rw [← HB.out]; exact ord_out HX.out (by omega)
          subst hres
          go_wp2_with fail
          go_ret
          exact ⟨rfl, rfl⟩
        by_cases hxn : (n : Int) ≤ x
        · have hres : res = false := by rw [← HB.out]; exact ord_out HX.out (by omega)
          subst hres
          go_wp2_with fail
          go_ret
          exact ⟨rfl, rfl⟩
        obtain ⟨k, rfl⟩ := Int.eq_ofNat_of_zero_le (show 0 ≤ x by omega)
        have hkn : k < n := by omega
        have hxn' : ¬ (n ≤ k) := by omega
        have hk0 : (0 : Int) ≤ (k : Int) := by omega
        have hsh := shr_test M k HH.out.lt
        cases hbit : M.testBit k with
        | true =>
          rw [hbit] at hsh
          have hres : res = false := by rw [← HB.out]; exact HH.out.dup HX.out hbit
          subst hres
          clear hbit
          go_wp2_with fail
          go_ret
          exact ⟨rfl, rfl⟩
        | false =>
          rw [hbit] at hsh
          have HN := Lib.hid (HH.out.step hn61 hkn HX.out hbit)
          have hpw := pow_bit (v := k) (by omega)
          have hor := u64_or_nat M (2 ^ k) HH.out.lt (by have : 2 ^ k < 2 ^ 61 := Nat.pow_lt_pow_right (by decide) (by omega); omega)
          generalize M ||| 2 ^ k = M2 at HN hor
          obtain ⟨Z, hZ⟩ : ∃ Z, 2 ^ k = Z := ⟨_, rfl⟩
          rw [hZ] at hpw hor
          clear hZ hbit
          go_wp2_with fail
          go_roundg (n - (i + 1))
          case measure => omega
          case rel => exact ⟨i + 1, M2, by omega, rfl, by go_num, by go_num, HN.out, rfl⟩
      · obtain rfl : i = n := by omega
        have hres : res = true := by rw [← HB.out]; exact HH.out.done hn61 HL.out
        subst hres
        have hiI : ¬ (i : Int) < (i : Int) := by omega
        go_wp2_with fail
        go_ret
        exact ⟨rfl, rfl⟩
  · have hB : ordB n l = false := ordB_not fun h => by omega
    rw [hB]
    generalize l.length = L at *
    have h3 : ((L : Int) == (n : Int)) = false := by simp; omega
    have h2I : ¬ (L : Int) = (n : Int) := by omega
    clear hr
    go_enter Try.func68, Try.ntmps68
    go_wp2_with fail
    go_ret
    exact ⟨rfl, rfl⟩
/-- The statement's own answer: each number below so many once. -/
theorem lright_spec {W : World} {n : Nat} {v : Value} {l : List Int} (h : ReadsI W v l) (hl : l.length = n) (hn : n ≤ 1000) :
    Calls Try.prog 22 #[.int .i64 n, v] W fun e W' => e = .returned (.bool (ordB n l)) ∧ W = W' := by
  obtain ⟨ao, cap, rfl, hcap, hr⟩ := h
  by_cases h1 : 61 < n
  · have hB : ordB n l = false := ordB_not fun h => by omega
    rw [hB]
    go_enter Try.func22, Try.ntmps22
    go_wp2_with fail
    go_ret
    exact ⟨rfl, rfl⟩
  have hn61 : n ≤ 61 := by omega
  rw [hl] at hcap hr ⊢
  have HL := Lib.hid hl
  have HR := Lib.hid hr
  obtain ⟨res, hres⟩ : ∃ res, ordB n l = res := ⟨_, rfl⟩
  rw [hres]
  have HB := Lib.hid hres
  clear hr hres hl
  go_enter Try.func22, Try.ntmps22
  go_wp2_with fail
  go_loopg [22] n (fun g t wy => ∃ (k : Nat), k ≤ n ∧ g = n - k ∧ t = .int .i64 k ∧ Hid (∀ j : Nat, j < k → l.count (j : Int) = 1) ∧ wy = W)
  case atStart => exact ⟨0, Nat.zero_le _, rfl, rfl, fun j hj => absurd hj (Nat.not_lt_zero _), rfl⟩
  case round =>
    obtain ⟨k, hk, rfl, rfl, HK, rfl⟩ := hrel
    by_cases hlt : k < n
    · have hkI : (k : Int) < (n : Int) := by omega
      go_wp2_with fail
      go_loopg [6, 27] n (fun g c t wy => ∃ (i m : Nat), i ≤ n ∧ g = n - i ∧ c = .int .i64 m ∧ t = .int .i64 i ∧ m ≤ i ∧ Hid ((l.take i).count (k : Int) = m) ∧ wy = wr)
      case atStart => exact ⟨0, 0, Nat.zero_le _, rfl, rfl, rfl, Nat.le_refl _, by show (l.take 0).count (k : Int) = 0; simp, rfl⟩
      case round =>
        obtain ⟨i, m, hi, rfl, rfl, rfl, hmi, HC, rfl⟩ := hrel
        by_cases hlt2 : i < n
        · have hiI : (i : Int) < (n : Int) := by omega
          obtain ⟨b, off, rfl, hb, hc⟩ := HR.out (by omega)
          obtain ⟨x, hx⟩ : ∃ x, l[i]? = some x := ⟨_, List.getElem?_eq_getElem (by have := HL.out; omega)⟩
          have c := hc i x hx
          have hct := count_take hx (k : Int)
          rw [HC.out] at hct
          have hicap : i < cap := by omega
          clear hc hx HC
          by_cases he : x = (k : Int)
          · rw [if_pos he] at hct
            have HN := Lib.hid hct
            subst he
            clear hct
            go_wp2_with fail
            go_roundg (n - (i + 1))
            case measure => omega
            case rel => exact ⟨i + 1, m + 1, by omega, rfl, by go_num, by go_num, by omega, HN.out, rfl⟩
          · rw [if_neg he] at hct
            have HN := Lib.hid hct
            have heb : (x == (k : Int)) = false := by simpa using he
            clear hct
            go_wp2_with fail
            go_roundg (n - (i + 1))
            case measure => omega
            case rel => exact ⟨i + 1, m, by omega, rfl, rfl, by go_num, by omega, HN.out, rfl⟩
        · obtain rfl : i = n := by omega
          have hiI : ¬ (i : Int) < (i : Int) := by omega
          have hct : l.count (k : Int) = m := by rw [← HC.out, ← HL.out, List.take_length]
          by_cases h1 : m = 1
          · subst h1
            have HN : Hid (∀ j : Nat, j < k + 1 → l.count (j : Int) = 1) := fun j hj => by
              rcases Nat.lt_or_ge j k with h | h
              · exact HK.out j h
              · obtain rfl : j = k := by omega
                exact hct
            clear HC hct
            go_wp2_with fail
            go_roundg (i - (k + 1))
            case measure => omega
            case rel => exact ⟨k + 1, by omega, rfl, by go_num, HN.out, rfl⟩
          · have hres : res = false := by rw [← HB.out]; exact ord_not_once HL.out hlt (by omega)
            subst hres
            have h1b : ((m : Int) == 1) = false := by simp; omega
            have h1I : ¬ (m : Int) = 1 := by omega
            clear HC hct
            go_wp2_with fail
            go_ret
            exact ⟨rfl, rfl⟩
    · obtain rfl : k = n := by omega
      have hkI : ¬ (k : Int) < (k : Int) := by omega
      have hres : res = true := by rw [← HB.out]; exact ord_once hn61 HL.out HK.out
      subst hres
      go_wp2_with fail
      go_ret
      exact ⟨rfl, rfl⟩
/-- .. of any row. -/
theorem lright_any {W : World} {n : Nat} {v : Value} {l : List Int} (h : ReadsI W v l) (hl : 0 ≤ l.length) (hn : n ≤ 1000) :
    Calls Try.prog 22 #[.int .i64 n, v] W fun e W' => e = .returned (.bool (ordB n l)) ∧ W = W' := by
  by_cases he : l.length = n
  · exact lright_spec h he hn
  obtain ⟨ao, cap, rfl, hcap, hr⟩ := h
  have hB : ordB n l = false := ordB_not fun h => by omega
  rw [hB]
  clear hr
  by_cases h1 : 61 < n
  · go_enter Try.func22, Try.ntmps22
    go_wp2_with fail
    go_ret
    exact ⟨rfl, rfl⟩
  · generalize l.length = L at *
    have h3 : ((L : Int) == (n : Int)) = false := by simp; omega
    have h2I : ¬ (L : Int) = (n : Int) := by omega
    have h4 : ((L : Int) != (n : Int)) = true := by simp; omega
    have hg0 : ¬ (n : Int) < 0 := by omega
    have hg1 : ¬ 61 < (n : Int) := by omega
    go_enter Try.func22, Try.ntmps22
    go_wp2_with fail
    go_ret
    exact ⟨rfl, rfl⟩
end Go.Proofs.Ytipcgjigkipcpaa
