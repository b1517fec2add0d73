/-
  Which rows are cubes: the program's answer and the statement's; which bits are as a cube tells; how much cubes tell.
-/
import Derived.Test.YtloidoekmicloaaMY
import Derived.Test.YtloidoekmicloaaMU
set_option linter.unusedVariables false
set_option linter.unusedSimpArgs false
set_option linter.unnecessarySimpa false
namespace Go.Proofs.Ytloidoekmicloaa
open Go.ChangeShapes Go.WideShapes Go.ChangeAt Go.RowKit Go.Deep NodePlain
/-- Does a row tell 0, 1 or -1 of each of so many variables? -/
def rightC (vars : Int) (c : List Int) : Bool := decide (0 ≤ vars ∧ vars ≤ 61 ∧ (c.length : Int) = vars ∧ ∀ x, x ∈ c → x = 0 ∨ x = 1 ∨ x = -1)
theorem rightC_iff {vars : Int} {c : List Int} : rightC vars c = true ↔ (0 ≤ vars ∧ vars ≤ 61 ∧ (c.length : Int) = vars ∧ ∀ x, x ∈ c → x = 0 ∨ x = 1 ∨ x = -1) := by unfold rightC; exact decide_eq_true_iff
theorem rightC_not {vars : Int} {c : List Int} (h : ¬ (0 ≤ vars ∧ vars ≤ 61 ∧ (c.length : Int) = vars ∧ ∀ x, x ∈ c → x = 0 ∨ x = 1 ∨ x = -1)) : rightC vars c = false := by unfold rightC; exact decide_eq_false h
/-- The first so many are 0, 1 or -1. -/
def CHad (c : List Int) (i : Nat) : Prop := ∀ (j : Nat) (x : Int), j < i → c[j]? = some x → x = 0 ∨ x = 1 ∨ x = -1
theorem CHad.start (c : List Int) : CHad c 0 := fun j x h => absurd h (Nat.not_lt_zero j)
theorem CHad.next {c : List Int} {i : Nat} (h : CHad c i) {x : Int} (hx : c[i]? = some x) (h3 : x = 0 ∨ x = 1 ∨ x = -1) : CHad c (i + 1) := fun j y hj hy => by
  rcases Nat.lt_or_eq_of_le (Nat.le_of_lt_succ hj) with h2 | h2
  · exact h j y h2 hy
  · subst h2; rw [hx] at hy; cases hy; exact h3
theorem CHad.done {c : List Int} {n : Nat} (h : CHad c n) (hn : c.length = n) (h61 : n ≤ 61) : rightC n c = true := rightC_iff.2 ⟨by omega, by omega, by omega, fun x hx => by
  obtain ⟨i, hi⟩ := List.getElem?_of_mem hx
  exact h i x (by have := (List.getElem?_eq_some_iff.1 hi).1; omega) hi⟩
theorem rightC_out {vars : Int} {c : List Int} {i : Nat} {x : Int} (hx : c[i]? = some x) (h : ¬ (x = 0 ∨ x = 1 ∨ x = -1)) : rightC vars c = false := rightC_not fun h2 => h (h2.2.2.2 x (List.mem_of_getElem? hx))
theorem CubeBlk.reads {W : World} {g k : Nat} {c : List Int} (h : CubeBlk W g c) (hk : c.length = k) : ReadsI W (.slice (some ⟨g, 0, none⟩) k k) c := by
  refine ⟨some ⟨g, 0, none⟩, k, by rw [hk], by omega, fun _ => ⟨g, 0, rfl, lt_of_heap h, fun j x hj => ?_⟩⟩
  rw [Nat.zero_add, cell_of_heap h]
  exact crow_get hj
section
variable {W : World}
set_option maxRecDepth 100000
set_option maxHeartbeats 1600000
theorem lright38_spec {vars : Int} (hv0 : -9223372036854775808 ≤ vars) (hv1 : vars ≤ 9223372036854775807) {v : Value} {l : List Int} (h : ReadsI W v l) :
    Calls Try.prog 11 #[.int .i64 vars, v] W fun e W' => e = .returned (.bool (rightC vars l)) ∧ W = W' := by
  obtain ⟨ao, cap, rfl, hcap, hr⟩ := h
  by_cases h0 : vars < 0
  · have hB : rightC vars l = false := rightC_not fun h => by omega
    rw [hB]
    go_enter Try.func11, Try.ntmps11
    go_wp2_with fail
    go_ret
    exact ⟨rfl, rfl⟩
  by_cases h1 : 61 < vars
  · have hB : rightC vars l = false := rightC_not fun h => by omega
    rw [hB]
    go_enter Try.func11, Try.ntmps11
    go_wp2_with fail
    go_ret
    exact ⟨rfl, rfl⟩
  obtain ⟨n, rfl⟩ := Int.eq_ofNat_of_zero_le (show 0 ≤ vars by omega)
  have hn61 : n ≤ 61 := by omega
  by_cases h2 : l.length = n
  · have h2b : ((l.length : Int) == (n : Int)) = true := by simp [h2]
    rw [h2] at hcap hr ⊢
    have HL := Lib.hid h2
    have HR := Lib.hid hr
    have HD := Lib.hid (fun (h : CHad l n) => h.done h2 hn61)
    obtain ⟨res, hres⟩ : ∃ res, rightC n l = res := ⟨_, rfl⟩
    rw [hres] at HD ⊢
    have HB := Lib.hid hres
    clear hr hres h2 h2b
    go_enter Try.func11, Try.ntmps11
    go_wp2_with fail
    go_loopg [21] n (fun g t wy => ∃ (i : Nat), i ≤ n ∧ g = n - i ∧ t = .int .i64 i ∧ Hid (CHad l i) ∧ wy = W)
    case atStart => exact ⟨0, Nat.zero_le _, rfl, rfl, CHad.start l, rfl⟩
    case round =>
      obtain ⟨i, hi, rfl, rfl, HH, rfl⟩ := hrel
      by_cases hlt : i < n
      · have hiI : (i : Int) < (n : Int) := by omega
        obtain ⟨b, off, rfl, hb, hc⟩ := HR.out (by omega)
        obtain ⟨x, hx⟩ : ∃ x, l[i]? = some x := ⟨_, List.getElem?_eq_getElem (by have := HL.out; omega)⟩
        have c := hc i x hx
        have HX := Lib.hid hx
        have hicap : i < cap := by omega
        clear hc hx
        by_cases e : x = 0 ∨ x = 1 ∨ x = -1
        · have HN := Lib.hid (HH.out.next HX.out e)
          clear HH HX
          rcases e with rfl | rfl | rfl
          all_goals
            go_wp2_with fail
            go_roundg (n - (i + 1))
            case measure => omega
            case rel => exact ⟨i + 1, by omega, rfl, by go_num, HN, rfl⟩
        · have hres : res = false := by rw [← HB.out]; exact rightC_out HX.out e
          subst hres
          have e0 : (x != 0) = true := by simpa using fun h : x = 0 => e (.inl h)
          have e1 : (x != 1) = true := by simpa using fun h : x = 1 => e (.inr (.inl h))
          have e2 : (x != -1) = true := by simpa using fun h : x = -1 => e (.inr (.inr h))
          clear e HX
          go_wp2_with fail
          go_ret
          exact ⟨rfl, rfl⟩
      · obtain rfl : i = n := by omega
        have hiI : ¬ (i : Int) < (i : Int) := by omega
        have hres : res = true := HD.out HH.out
        subst hres
        go_wp2_with fail
        go_ret
        exact ⟨rfl, rfl⟩
  · have hB : rightC n l = false := rightC_not fun h => by omega
    rw [hB]
    have h2I : ¬ (l.length : Int) = (n : Int) := by omega
    go_enter Try.func11, Try.ntmps11
    go_wp2_with fail
    go_ret
    exact ⟨rfl, rfl⟩
theorem cclos_spec {x : Int} (hx0 : -9223372036854775808 ≤ x) (hx1 : x ≤ 9223372036854775807) :
    Calls Try.prog 45 #[.int .i64 x] W fun e W' => e = .returned (.bool (!decide (x = 0 ∨ x = 1 ∨ x = -1))) ∧ W = W' := by
  by_cases h0 : x < -1
  · have hB : decide (x = 0 ∨ x = 1 ∨ x = -1) = false := decide_eq_false (by omega)
    rw [hB]
    go_enter Try.func45, Try.ntmps45
    go_wp2_with fail
    go_ret
    exact ⟨rfl, rfl⟩
  by_cases h1 : 1 < x
  · have hB : decide (x = 0 ∨ x = 1 ∨ x = -1) = false := decide_eq_false (by omega)
    rw [hB]
    go_enter Try.func45, Try.ntmps45
    go_wp2_with fail
    go_ret
    exact ⟨rfl, rfl⟩
  have hB : decide (x = 0 ∨ x = 1 ∨ x = -1) = true := decide_eq_true (by omega)
  rw [hB]
  go_enter Try.func45, Try.ntmps45
  go_wp2_with fail
  go_ret
  exact ⟨rfl, rfl⟩
/-- Where the first that is no cube's number stands. -/
theorem cindex_spec {n : Nat} (hn61 : n ≤ 61) {ao : Option Addr} {cap : Nat} {l : List Int} (h2 : l.length = n) (hcap : n ≤ cap) (hr : 0 < n → ∃ g off, ao = some ⟨g, off, none⟩ ∧ g < W.heap.size ∧ ∀ (j : Nat) (x : Int), l[j]? = some x → W.cell? ⟨g, off + j, none⟩ = some (.int .i64 x)) (hx : ∀ x, x ∈ l → -9223372036854775808 ≤ x ∧ x ≤ 9223372036854775807) :
    Calls Try.prog 64 #[.slice ao n cap, .func (.func 45) #[] #[]] W fun e W' => ∃ x : Int, e = .returned (.int .i64 x) ∧ Hid (decide (0 ≤ x) = !rightC n l) ∧ W = W' := by
  have HL := Lib.hid h2
  have HR := Lib.hid hr
  have HX0 := Lib.hid hx
  have HD := Lib.hid (fun (h : CHad l n) => h.done h2 hn61)
  clear hr h2 hx
  go_enter Try.func64, Try.ntmps64
  go_wp2_with fail
  go_loopg [8] n (fun g t wy => ∃ (i : Nat), i ≤ n ∧ g = n - i ∧ t = .int .i64 i ∧ Hid (CHad l i) ∧ wy = W)
  case atStart => exact ⟨0, Nat.zero_le _, rfl, rfl, CHad.start l, rfl⟩
  case round =>
    obtain ⟨i, hi, rfl, rfl, HH, rfl⟩ := hrel
    by_cases hlt : i < n
    · have hiI : (i : Int) < (n : Int) := by omega
      obtain ⟨b, off, rfl, hb, hc⟩ := HR.out (by omega)
      obtain ⟨x, hx⟩ : ∃ x, l[i]? = some x := ⟨_, List.getElem?_eq_getElem (by have := HL.out; omega)⟩
      have c := hc i x hx
      have HX := Lib.hid hx
      have hicap : i < cap := by omega
      have hxr := HX0.out x (List.mem_of_getElem? hx)
      have HC := Lib.hid (cclos_spec (W := wr) hxr.1 hxr.2)
      clear hc hx hxr
      by_cases e : x = 0 ∨ x = 1 ∨ x = -1
      · have HN := Lib.hid (HH.out.next HX.out e)
        have e2 : decide (x = 0 ∨ x = 1 ∨ x = -1) = true := decide_eq_true e
        rw [e2] at HC
        clear HH HX e e2
        go_wp2_with (go_at_call 45; refine HC.out.mono ?_; rintro e w' ⟨rfl, rfl⟩)
        go_roundg (n - (i + 1))
        case measure => omega
        case rel => exact ⟨i + 1, by omega, rfl, by go_num, HN, rfl⟩
      · have hres : Hid (decide (0 ≤ (i : Int)) = !rightC n l) := by rw [rightC_out HX.out e]; exact decide_eq_true (by omega)
        have e2 : decide (x = 0 ∨ x = 1 ∨ x = -1) = false := decide_eq_false e
        rw [e2] at HC
        clear HH HX e e2
        go_wp2_with (go_at_call 45; refine HC.out.mono ?_; rintro e w' ⟨rfl, rfl⟩)
        go_ret
        exact ⟨_, rfl, hres, rfl⟩
    · obtain rfl : i = n := by omega
      have hiI : ¬ (i : Int) < (i : Int) := by omega
      have hres : Hid (decide (0 ≤ (-1 : Int)) = !rightC i l) := by rw [HD.out HH.out]; rfl
      clear HH HD
      go_wp2_with fail
      go_ret
      exact ⟨_, rfl, hres, rfl⟩
theorem ccontains_spec {n : Nat} (hn61 : n ≤ 61) {ao : Option Addr} {cap : Nat} {l : List Int} (h2 : l.length = n) (hcap : n ≤ cap) (hr : 0 < n → ∃ g off, ao = some ⟨g, off, none⟩ ∧ g < W.heap.size ∧ ∀ (j : Nat) (x : Int), l[j]? = some x → W.cell? ⟨g, off + j, none⟩ = some (.int .i64 x)) (hx : ∀ x, x ∈ l → -9223372036854775808 ≤ x ∧ x ≤ 9223372036854775807) :
    Calls Try.prog 44 #[.slice ao n cap, .func (.func 45) #[] #[]] W fun e W' => e = .returned (.bool (!rightC n l)) ∧ W = W' := by
  have HC := Lib.hid (cindex_spec hn61 h2 hcap hr hx)
  clear h2 hr hx
  go_enter Try.func44, Try.ntmps44
  go_wp2_with (go_at_call 64; refine HC.out.mono ?_; rintro e wA ⟨x, rfl, hA, rfl⟩)
  clear HC
  go_ret
  rw [← hA.out]
  exact ⟨rfl, rfl⟩
theorem cright_spec {vars : Int} (hv0 : -9223372036854775808 ≤ vars) (hv1 : vars ≤ 9223372036854775807) {v : Value} {l : List Int} (h : ReadsI W v l) (hx : ∀ x, x ∈ l → -9223372036854775808 ≤ x ∧ x ≤ 9223372036854775807) :
    Calls Try.prog 20 #[.int .i64 vars, v] W fun e W' => e = .returned (.bool (rightC vars l)) ∧ W = W' := by
  obtain ⟨ao, cap, rfl, hcap, hr⟩ := h
  by_cases h0 : vars < 0
  · have hB : rightC vars l = false := rightC_not fun h => by omega
    rw [hB]
    go_enter Try.func20, Try.ntmps20
    go_wp2_with fail
    go_ret
    exact ⟨rfl, rfl⟩
  by_cases h1 : 61 < vars
  · have hB : rightC vars l = false := rightC_not fun h => by omega
    rw [hB]
    go_enter Try.func20, Try.ntmps20
    go_wp2_with fail
    go_ret
    exact ⟨rfl, rfl⟩
  obtain ⟨n, rfl⟩ := Int.eq_ofNat_of_zero_le (show 0 ≤ vars by omega)
  have hn61 : n ≤ 61 := by omega
  by_cases h2 : l.length = n
  · rw [h2] at hcap hr ⊢
    have HC := Lib.hid (ccontains_spec hn61 h2 hcap hr hx)
    obtain ⟨res, hres⟩ : ∃ res, rightC n l = res := ⟨_, rfl⟩
    rw [hres] at HC ⊢
    clear hr hres h2 hx
    go_enter Try.func20, Try.ntmps20
    cases res
    all_goals
      simp only [Bool.not_true, Bool.not_false] at HC
      go_wp2_with (go_at_call 44; refine HC.out.mono ?_; rintro e wA ⟨rfl, rfl⟩)
      clear HC
      go_ret
      exact ⟨rfl, rfl⟩
  · have hB : rightC n l = false := rightC_not fun h => by omega
    rw [hB]
    have h2I : ¬ (l.length : Int) = (n : Int) := by omega
    go_enter Try.func20, Try.ntmps20
    go_wp2_with fail
    go_ret
    exact ⟨rfl, rfl⟩
end
end Go.Proofs.Ytloidoekmicloaa
