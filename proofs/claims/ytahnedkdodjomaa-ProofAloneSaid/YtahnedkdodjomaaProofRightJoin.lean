/-
  The document's Right (proofs) of any step: joined; and when all of some steps are right.
-/
import Derived.Test.YtahnedkdodjomaaProofRightAny
set_option linter.unusedVariables false
set_option linter.unusedSimpArgs false
set_option linter.unnecessarySimpa false
namespace Go.Proofs.Ytahnedkdodjomaa
open Go.ChangeShapes Go.WideShapes Go.ChangeAt Go.RowKit Go.Deep SetPlain
/-- Is a step right behind others? -/
def rB (p k : Int) (rs : List Rl) (l : List Sp) (s : Sp) : Bool := (needsL p k rs s).2 && (needsL p k rs s).1.all fun f => (atF l f.1 f.2).isSome
theorem mayB_rB (p k : Int) (rs : List Rl) (l : List Sp) (s : Sp) : mayB p k rs l s = (rB p k rs l s && !(atF l s.role s.who).isSome) := rfl
/-- Each step is right behind those ahead of it, and new. -/
def Chk (p k : Int) (rs : List Rl) (l : List Sp) : Prop := ∀ (i : Nat) (s : Sp), l[i]? = some s → mayB p k rs (l.take i) s = true
theorem rB_out {p k : Int} {rs : List Rl} {l : List Sp} {s : Sp} (h : ¬ (0 ≤ s.rule ∧ s.rule < rs.length)) : rB p k rs l s = false := by
  unfold rB needsL ruleAt
  rw [if_neg h, needsR_no (.inl rfl)]
  rfl
theorem rB_at {p k : Int} {rs : List Rl} {l : List Sp} {i : Nat} {r : Rl} (hr : rs[i]? = some r) (role c mid : Int) :
    rB p k rs l ⟨i, role, c, mid⟩ = ((needsR p k r (rightB p k r) ⟨i, role, c, mid⟩).2 && (needsR p k r (rightB p k r) ⟨i, role, c, mid⟩).1.all fun f => (atF l f.1 f.2).isSome) := by
  have hi : i < rs.length := by
    rcases Nat.lt_or_ge i rs.length with h | h
    · exact h
    · rw [List.getElem?_eq_none h] at hr; cases hr
  have e : ruleAt p k rs i = (r, rightB p k r) := by
    unfold ruleAt
    rw [if_pos ⟨by omega, by omega⟩]
    simp [hr]
  unfold rB needsL
  rw [show (Sp.mk i role c mid).rule = (i : Int) from rfl, e]
theorem rB_no {p k : Int} {rs : List Rl} {l : List Sp} {i : Nat} {r : Rl} (hr : rs[i]? = some r) {role c mid : Int}
    (h : rightB p k r = false ∨ r.head ≠ role ∨ c < 0 ∨ p ≤ c ∨ (r.kind ≠ 3 ∧ mid ≠ 0)) : rB p k rs l ⟨i, role, c, mid⟩ = false := by
  rw [rB_at hr, needsR_no h]
  rfl
theorem right_kind4 {p k : Int} {r : Rl} (h : rightB p k r = true) : r.kind = 1 ∨ r.kind = 2 ∨ r.kind = 3 ∨ r.kind = 4 := by
  unfold rightB at h
  rw [Bool.and_eq_true, Bool.and_eq_true] at h
  have h2 := h.2.2
  by_cases h1 : r.kind = 1
  · exact .inl h1
  rw [if_neg h1] at h2
  by_cases h4 : r.kind = 4
  · exact .inr (.inr (.inr h4))
  rw [if_neg h4] at h2
  by_cases h5 : r.kind = 2
  · exact .inr (.inl h5)
  rw [if_neg h5] at h2
  by_cases h3 : r.kind = 3
  · exact .inr (.inr (.inl h3))
  rw [if_neg h3] at h2
  cases h2
theorem right9_any {W : World} {p k : Int} {ao so : Option Addr} {n cap hn hcp : Nat} {rs : List Rl} {l : List Sp} (hR : RuleRow W ao rs) (hrs : rs.length = n) (hcap : n ≤ cap) (hS : StRow W so l) (hh : l.length = hn) (hhc : hn ≤ hcp) (hlen : hn ≤ 1000000) (hP : p ≤ 64) (hK : k ≤ 64)
    (s : Sp) : Calls Try.prog 16 #[.int .i64 p, .int .i64 k, .slice ao n cap, .slice so hn hcp, .agg #[.int .i64 s.rule, .int .i64 s.role, .int .i64 s.who, .int .i64 s.mid]] W (fun e W' => e = .returned (.bool (rB p k rs l s)) ∧ Below W.heap.size W W') := by
  obtain ⟨rule, role, c, mid⟩ := s
  simp only []
  by_cases h0 : rule < 0
  · rw [rB_out (fun h => by have := h.1; simp only [] at this; omega)]
    exact r9_neg hR hrs hcap hS hh hhc hlen hP hK rule c h0 role mid
  obtain ⟨i, rfl⟩ : ∃ i : Nat, rule = i := ⟨rule.toNat, by omega⟩
  by_cases h1 : n ≤ i
  · rw [rB_out (fun h => by have := h.2; simp only [] at this; omega)]
    exact r9_far hR hrs hcap hS hh hhc hlen hP hK i c h1 role mid
  obtain ⟨r, hr⟩ : ∃ r, rs[i]? = some r := ⟨_, List.getElem?_eq_getElem (by omega)⟩
  by_cases hc0 : c < 0
  · rw [rB_no hr (.inr (.inr (.inl hc0)))]
    exact r9_cneg hR hrs hcap hS hh hhc hlen hP hK i c (by omega) hc0 role mid
  by_cases hc1 : p ≤ c
  · rw [rB_no hr (.inr (.inr (.inr (.inl hc1))))]
    exact r9_cfar hR hrs hcap hS hh hhc hlen hP hK i c (by omega) (by omega) hc1 role mid
  obtain ⟨kind, head, rwho, a, b, via⟩ := r
  cases hB : rightB p k ⟨kind, head, rwho, a, b, via⟩ with
  | false =>
    rw [rB_no hr (.inl hB)]
    exact r9_wrong hR hrs hcap hS hh hhc hlen hP hK i kind c mid role head rwho a b via hr hB (by omega) (by omega)
  | true =>
    by_cases hhd : head = role
    · subst hhd
      have e := rB_at (p := p) (k := k) (l := l) hr head c mid
      rw [hB] at e
      unfold needsR at e
      simp only [] at e
      have hk4 := right_kind4 hB
      simp only [] at hk4
      have hno : ¬ (true = false ∨ head ≠ head ∨ c < 0 ∨ p ≤ c ∨ (kind ≠ 3 ∧ mid ≠ 0)) ∨ (kind ≠ 3 ∧ mid ≠ 0) := by
        by_cases h : kind ≠ 3 ∧ mid ≠ 0
        · exact .inr h
        · refine .inl (fun h2 => ?_)
          rcases h2 with h2 | h2 | h2 | h2 | h2
          · cases h2
          · exact h2 rfl
          · exact hc0 h2
          · exact hc1 h2
          · exact h h2
      rcases hno with hno | hno
      · rw [if_neg hno] at e
        rcases hk4 with rfl | rfl | rfl | rfl
        · have hm : mid = 0 := Classical.byContradiction fun h => hno (.inr (.inr (.inr (.inr ⟨by decide, h⟩))))
          subst hm
          rw [if_pos rfl] at e
          simp only [List.all_nil, Bool.and_true] at e
          by_cases hw : rwho = c
          · subst hw
            rw [e, decide_eq_true rfl]
            exact r9_1_yes hR hrs hcap hS hh hhc hlen hP hK i rwho 0 head head 0 a b via hr hB (by omega) (by omega)
          · rw [e, decide_eq_false hw]
            exact r9_1_no hR hrs hcap hS hh hhc hlen hP hK i c 0 head head rwho a b via hr hB (by omega) (by omega) (by simpa using hw) (decide_eq_false hw)
        · have hm : mid = 0 := Classical.byContradiction fun h => hno (.inr (.inr (.inr (.inr ⟨by decide, h⟩))))
          subst hm
          rw [if_neg (by decide), if_pos rfl] at e
          simp only [List.all_cons, List.all_nil, Bool.and_true, Bool.true_and] at e
          rw [e]
          cases h1 : (atF l a c).isSome with
          | false => exact r9_2_false hR hrs hcap hS hh hhc hlen hP hK i c 0 head head rwho a b via hr hB (by omega) (by omega) h1
          | true => exact r9_2_true hR hrs hcap hS hh hhc hlen hP hK i c 0 head head rwho a b via hr hB (by omega) (by omega) h1
        · rw [if_neg (by decide), if_neg (by decide), if_neg (by decide)] at e
          simp only [List.all_cons, List.all_nil, Bool.and_true] at e
          by_cases m0 : 0 ≤ mid
          · by_cases m1 : mid < p
            · rw [decide_eq_true (And.intro m0 m1), Bool.true_and] at e
              rw [e]
              cases h1 : (atF l a mid).isSome with
              | false => exact r9_3_f hR hrs hcap hS hh hhc hlen hP hK i c mid head head rwho a b via hr hB (by omega) (by omega) m0 m1 h1
              | true =>
                rw [Bool.true_and]
                cases h2 : (atF l (IntKind.i64.wrap (IntKind.i64.wrap (mid * k) + via)) c).isSome with
                | false => exact r9_3_tfalse hR hrs hcap hS hh hhc hlen hP hK i c mid head head rwho a b via hr hB (by omega) (by omega) m0 m1 h1 _ _ rfl rfl h2
                | true => exact r9_3_ttrue hR hrs hcap hS hh hhc hlen hP hK i c mid head head rwho a b via hr hB (by omega) (by omega) m0 m1 h1 _ _ rfl rfl h2
            · rw [decide_eq_false (fun h => m1 h.2), Bool.false_and] at e
              rw [e]
              exact r9_3_far hR hrs hcap hS hh hhc hlen hP hK i c mid head head rwho a b via hr hB (by omega) (by omega) m0 (decide_eq_false m1)
          · rw [decide_eq_false (fun h => m0 h.1), Bool.false_and] at e
            rw [e]
            exact r9_3_low hR hrs hcap hS hh hhc hlen hP hK i c mid head head rwho a b via hr hB (by omega) (by omega) (decide_eq_false m0)
        · have hm : mid = 0 := Classical.byContradiction fun h => hno (.inr (.inr (.inr (.inr ⟨by decide, h⟩))))
          subst hm
          rw [if_neg (by decide), if_neg (by decide), if_pos rfl] at e
          simp only [List.all_cons, List.all_nil, Bool.and_true, Bool.true_and] at e
          rw [e]
          cases h1 : (atF l a c).isSome with
          | false => exact r9_4_f hR hrs hcap hS hh hhc hlen hP hK i c 0 head head rwho a b via hr hB (by omega) (by omega) h1
          | true =>
            rw [Bool.true_and]
            cases h2 : (atF l b c).isSome with
            | false => exact r9_4_tfalse hR hrs hcap hS hh hhc hlen hP hK i c 0 head head rwho a b via hr hB (by omega) (by omega) h1 h2
            | true => exact r9_4_ttrue hR hrs hcap hS hh hhc hlen hP hK i c 0 head head rwho a b via hr hB (by omega) (by omega) h1 h2
      · have e2 := rB_no (p := p) (k := k) (l := l) hr (role := head) (c := c) (.inr (.inr (.inr (.inr hno))))
        rw [e2]
        have m1 : (mid == 0) = false := by simpa using hno.2
        have m2 : decide (mid = 0) = false := decide_eq_false hno.2
        rcases hk4 with rfl | rfl | rfl | rfl
        · exact r9_1_mid hR hrs hcap hS hh hhc hlen hP hK i c mid head head rwho a b via hr hB (by omega) (by omega) m1 m2
        · exact r9_2_mid hR hrs hcap hS hh hhc hlen hP hK i c mid head head rwho a b via hr hB (by omega) (by omega) m1 m2
        · exact absurd rfl hno.1
        · exact r9_4_mid hR hrs hcap hS hh hhc hlen hP hK i c mid head head rwho a b via hr hB (by omega) (by omega) m1 m2
    · rw [rB_no hr (.inr (.inl hhd))]
      exact r9_head hR hrs hcap hS hh hhc hlen hP hK i kind c mid role head rwho a b via hr hB (by omega) (by omega) (by simpa using hhd)
end Go.Proofs.Ytahnedkdodjomaa
