/-
  Which formulas may be: the program's answer.
-/
import Derived.Test.YtipcgjigkipcpaaExprMem
set_option linter.unusedVariables false
set_option linter.unusedSimpArgs false
set_option linter.unnecessarySimpa false
namespace Go.Proofs.Ytipcgjigkipcpaa
open Go.ChangeShapes Go.WideShapes Go.ChangeAt Go.RowKit Go.Deep NodePlain
theorem stands_out {vars : Int} {i : Nat} {s : Sp} {x : Int} (hx : x ∈ standsL s) (h : ¬ (0 ≤ x ∧ x < (i : Int))) : okS vars i s = false := by
  refine decide_eq_false fun ho => h ?_
  unfold standsL at hx
  rcases ho with ho | ho | ho | ho
  · rw [if_neg (by omega), if_neg (by omega)] at hx; simp at hx
  · rw [if_pos ho.1] at hx
    simp only [List.mem_singleton] at hx
    subst hx; omega
  · rw [if_neg (by omega), if_pos ho.1] at hx
    simp only [List.mem_cons, List.not_mem_nil, or_false] at hx
    rcases hx with rfl | rfl <;> omega
  · rw [if_neg (by omega), if_neg (by omega)] at hx; simp at hx
/-- What is left to ask behind these. -/
def tailOk (vars : Int) (s : Sp) : Prop := (s.op = 1 ∧ 0 ≤ s.a ∧ s.a < vars ∧ s.b = 0) ∨ (s.op = 2 ∧ s.b = 0) ∨ (s.op = 3 ∨ s.op = 4 ∨ s.op = 5) ∨ ((s.op = 6 ∨ s.op = 7) ∧ s.a = 0 ∧ s.b = 0)
instance (vars : Int) (s : Sp) : Decidable (tailOk vars s) := by unfold tailOk; infer_instance
theorem stands_len (s : Sp) : (standsL s).length ≤ 2 := by
  unfold standsL
  split
  · simp
  · split <;> simp
theorem stands_in {vars : Int} {i : Nat} {s : Sp} (h : ∀ x, x ∈ standsL s → 0 ≤ x ∧ x < (i : Int)) : OkS vars i s ↔ tailOk vars s := by
  unfold OkS tailOk
  unfold standsL at h
  by_cases h2 : s.op = 2
  · rw [if_pos h2] at h
    have := h s.a (by simp)
    omega
  rw [if_neg h2] at h
  by_cases h3 : s.op = 3 ∨ s.op = 4 ∨ s.op = 5
  · rw [if_pos h3] at h
    have := h s.a (by simp)
    have := h s.b (by simp)
    omega
  · omega
set_option maxRecDepth 100000
set_option maxHeartbeats 1600000
theorem sright_spec (W : World) (s : Sp) (vars : Int) (i : Nat) (hi : i ≤ 1000000) : Calls Try.prog 75 #[spV s, .int .i64 vars, .int .i64 i] W fun e W' => e = .returned (.bool (okS vars i s)) ∧ Keeps (fun _ => False) W W' := by
  have HS := Lib.hid (fun W' => stands_spec W' s)
  have hl2 := stands_len s
  obtain ⟨L, hL⟩ : ∃ L, standsL s = L := ⟨_, rfl⟩
  have HOUT : Hid (∀ x, x ∈ L → ¬ (0 ≤ x ∧ x < (i : Int)) → okS vars i s = false) := fun x hx h => stands_out (hL ▸ hx) h
  have HIN : Hid ((∀ x, x ∈ L → 0 ≤ x ∧ x < (i : Int)) → (OkS vars i s ↔ tailOk vars s)) := fun h => stands_in (hL ▸ h)
  rw [hL] at HS hl2
  clear hL
  obtain ⟨r, hr⟩ : ∃ r, okS vars i s = r := ⟨_, rfl⟩
  rw [hr]
  rw [hr] at HOUT
  have HR : Hid ((∀ x, x ∈ L → 0 ≤ x ∧ x < (i : Int)) → decide (tailOk vars s) = r) := fun h => by
    rw [← hr]
    exact decide_eq_decide.2 (HIN.out h).symm
  clear hr HIN
  obtain ⟨op, a, b⟩ := s
  unfold spV at HS ⊢
  unfold tailOk at HR
  simp only [] at HS HR ⊢
  have hal := (MapKept.heap_alloc W (.cells #[.int .i64 op, .int .i64 a, .int .i64 b] 107)).1
  have hk1 : Keeps (fun _ => False) W (W.alloc (.cells #[.int .i64 op, .int .i64 a, .int .i64 b] 107)) := (Keeps.refl _ _).alloc _
  have c0 := cell_of_heap hal 0
  have c1 := cell_of_heap hal 1
  have c2 := cell_of_heap hal 2
  simp only [List.getElem?_toArray, List.getElem?_cons_zero, List.getElem?_cons_succ] at c0 c1 c2
  have HK := Lib.hid hk1
  have HA := Lib.hid hal
  clear hal hk1
  go_enter Try.func75, Try.ntmps75
  go_upto_region 1 with fail
  generalize W.alloc (.cells #[.int .i64 op, .int .i64 a, .int .i64 b] 107) = w1 at *
  obtain ⟨bx, hbx⟩ : ∃ bx, W.heap.size = bx := ⟨_, rfl⟩
  rw [hbx] at HA c0 c1 c2 ⊢
  go_wp2_with fail
  refine (HS.out w1).mono ?_
  rintro e w2 ⟨so, rfl, h2⟩
  have d0 := (h2.out.1.cell (p := ⟨bx, 0, none⟩) (lt_of_heap HA.out) (fun x => x)).trans c0
  have d1 := (h2.out.1.cell (p := ⟨bx, 1, none⟩) (lt_of_heap HA.out) (fun x => x)).trans c1
  have d2 := (h2.out.1.cell (p := ⟨bx, 2, none⟩) (lt_of_heap HA.out) (fun x => x)).trans c2
  have HK2 := Lib.hid (HK.out.trans h2.out.1)
  have HN := Lib.hid h2.out.2.1
  clear h2 c0 c1 c2 HS HA HK
  have HLX : Hid (∀ j, j < L.length → ∃ x, L[j]? = some x) := fun j hj => ⟨_, List.getElem?_eq_getElem hj⟩
  have HLL : Hid (∀ j x, L[j]? = some x → x ∈ L) := fun j x h => List.mem_of_getElem? h
  have HLG : Hid (∀ x, x ∈ L → ∃ j : Nat, j < L.length ∧ L[j]? = some x) := fun x h => by
    obtain ⟨j, hj⟩ := List.getElem?_of_mem h
    refine ⟨j, ?_, hj⟩
    rcases Nat.lt_or_ge j L.length with h' | h'
    · exact h'
    · rw [List.getElem?_eq_none h'] at hj; cases hj
  obtain ⟨n, hn⟩ : ∃ n, L.length = n := ⟨_, rfl⟩
  have HNN : Hid (0 < n → 0 < L.length) := fun h => by omega
  rw [hn] at HLX HLG hl2 ⊢
  have hn2 : Hid (L.length = n) := hn
  clear hn
  go_wp2_with fail
  go_loopg [12] n (fun g t wy => ∃ (j : Nat), j ≤ n ∧ g = n - j ∧ t = .int .i64 j ∧ wy = w2 ∧ Hid (∀ k x, k < j → L[k]? = some x → 0 ≤ x ∧ x < (i : Int)))
  case atStart => exact ⟨0, Nat.zero_le _, rfl, rfl, rfl, fun k x hk => by omega⟩
  case round =>
    obtain ⟨j, hj, rfl, rfl, rfl, HJ⟩ := hrel
    by_cases hlt : j < n
    · have hjI : (j : Int) < (n : Int) := by omega
      have hwj : IntKind.i64.wrap ((j : Int) + 1) = (j : Int) + 1 := IntWalk.i64_in _ (by omega)
      obtain ⟨x, hx⟩ := HLX.out j hlt
      obtain ⟨bb, rfl, hbb, hcc⟩ := HN.out (HNN.out (by omega))
      have c := hcc j x hx
      have HX := Lib.hid hx
      clear hcc hx
      by_cases hx0 : x < 0
      · have hres : r = false := HOUT.out x (HLL.out j x HX.out) (by omega)
        subst hres
        go_wp2_with fail
        go_ret
        exact ⟨rfl, HK2.out⟩
      by_cases hxn : (i : Int) ≤ x
      · have hres : r = false := HOUT.out x (HLL.out j x HX.out) (by omega)
        subst hres
        go_wp2_with fail
        go_ret
        exact ⟨rfl, HK2.out⟩
      have HJ2 : Hid (∀ k y, k < j + 1 → L[k]? = some y → 0 ≤ y ∧ y < (i : Int)) := fun k y hk hy => by
        by_cases e : k = j
        · subst e
          rw [HX.out] at hy
          simp only [Option.some.injEq] at hy
          omega
        · exact HJ.out k y (by omega) hy
      clear HJ HX
      go_wp2_with fail
      go_roundg (n - (j + 1))
      case measure => omega
      case rel => exact ⟨j + 1, by omega, rfl, by go_num, rfl, HJ2⟩
    · have hjI : ¬ (j : Int) < (n : Int) := by omega
      have HR2 : Hid (decide ((op = 1 ∧ 0 ≤ a ∧ a < vars ∧ b = 0) ∨ (op = 2 ∧ b = 0) ∨ (op = 3 ∨ op = 4 ∨ op = 5) ∨ ((op = 6 ∨ op = 7) ∧ a = 0 ∧ b = 0)) = r) := HR.out fun x hx => by
        obtain ⟨k, hk, e⟩ := HLG.out x hx
        exact HJ.out k x (by omega) e
      clear HJ HLX HLL HLG HNN HR HOUT HN hn2
      by_cases h1 : op = 1
      · subst h1
        by_cases a0 : a < 0
        · have hres : r = false := by rw [← HR2.out]; exact decide_eq_false (by omega)
          subst hres
          have a0b : ¬ (0 ≤ a) := by omega
          go_wp2_with fail
          go_ret
          exact ⟨rfl, HK2.out⟩
        have a0b : 0 ≤ a := by omega
        by_cases a1 : a < vars
        · by_cases b0 : b = 0
          · have hres : r = true := by rw [← HR2.out]; exact decide_eq_true (by omega)
            subst hres b0
            go_wp2_with fail
            go_ret
            exact ⟨rfl, HK2.out⟩
          · have hres : r = false := by rw [← HR2.out]; exact decide_eq_false (by omega)
            subst hres
            have b0b : (b == 0) = false := beq_eq_false_iff_ne.2 b0
            go_wp2_with fail
            go_ret
            exact ⟨rfl, HK2.out⟩
        · have hres : r = false := by rw [← HR2.out]; exact decide_eq_false (by omega)
          subst hres
          go_wp2_with fail
          go_ret
          exact ⟨rfl, HK2.out⟩
      have b1 : (op == 1) = false := beq_eq_false_iff_ne.2 h1
      by_cases h2 : op = 2
      · subst h2
        by_cases b0 : b = 0
        · have hres : r = true := by rw [← HR2.out]; exact decide_eq_true (by omega)
          subst hres b0
          go_wp2_with fail
          go_ret
          exact ⟨rfl, HK2.out⟩
        · have hres : r = false := by rw [← HR2.out]; exact decide_eq_false (by omega)
          subst hres
          have b0b : (b == 0) = false := beq_eq_false_iff_ne.2 b0
          go_wp2_with fail
          go_ret
          exact ⟨rfl, HK2.out⟩
      have b2 : (op == 2) = false := beq_eq_false_iff_ne.2 h2
      by_cases h345 : op = 3 ∨ op = 4 ∨ op = 5
      · have hres : r = true := by rw [← HR2.out]; exact decide_eq_true (by omega)
        subst hres
        clear HR2
        rcases h345 with rfl | rfl | rfl
        · go_wp2_with fail
          go_ret
          exact ⟨rfl, HK2.out⟩
        · go_wp2_with fail
          go_ret
          exact ⟨rfl, HK2.out⟩
        · go_wp2_with fail
          go_ret
          exact ⟨rfl, HK2.out⟩
      have b3 : (op == 3) = false := beq_eq_false_iff_ne.2 (by omega)
      have b4 : (op == 4) = false := beq_eq_false_iff_ne.2 (by omega)
      have b5 : (op == 5) = false := beq_eq_false_iff_ne.2 (by omega)
      by_cases h67 : op = 6 ∨ op = 7
      · by_cases a0 : a = 0
        · by_cases b0 : b = 0
          · have hres : r = true := by rw [← HR2.out]; exact decide_eq_true (by omega)
            subst hres a0 b0
            clear HR2 h345
            rcases h67 with rfl | rfl
            · go_wp2_with fail
              go_ret
              exact ⟨rfl, HK2.out⟩
            · go_wp2_with fail
              go_ret
              exact ⟨rfl, HK2.out⟩
          · have hres : r = false := by rw [← HR2.out]; exact decide_eq_false (by omega)
            have b0b : (b == 0) = false := beq_eq_false_iff_ne.2 b0
            subst hres a0
            clear HR2 h345
            rcases h67 with rfl | rfl
            · go_wp2_with fail
              go_ret
              exact ⟨rfl, HK2.out⟩
            · go_wp2_with fail
              go_ret
              exact ⟨rfl, HK2.out⟩
        · have hres : r = false := by rw [← HR2.out]; exact decide_eq_false (by omega)
          have a0b : (a == 0) = false := beq_eq_false_iff_ne.2 a0
          subst hres
          clear HR2 h345
          rcases h67 with rfl | rfl
          · go_wp2_with fail
            go_ret
            exact ⟨rfl, HK2.out⟩
          · go_wp2_with fail
            go_ret
            exact ⟨rfl, HK2.out⟩
      · have b6 : (op == 6) = false := beq_eq_false_iff_ne.2 (by omega)
        have b7 : (op == 7) = false := beq_eq_false_iff_ne.2 (by omega)
        have hres : r = false := by rw [← HR2.out]; exact decide_eq_false (by omega)
        subst hres
        clear HR2
        go_wp2_with fail
        go_ret
        exact ⟨rfl, HK2.out⟩
end Go.Proofs.Ytipcgjigkipcpaa
