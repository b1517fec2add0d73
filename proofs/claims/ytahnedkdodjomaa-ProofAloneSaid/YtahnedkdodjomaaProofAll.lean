/-
  All that can be proved is.
-/
import Derived.Test.YtahnedkdodjomaaProofTriesWalk
set_option linter.unusedVariables false
set_option linter.unusedSimpArgs false
set_option linter.unnecessarySimpa false
namespace Go.Proofs.Ytahnedkdodjomaa
open Go.ChangeShapes Go.WideShapes Go.ChangeAt Go.RowKit Go.Deep SetPlain
def AllPost (z : Nat) (w : World) (kb P K : Nat) (ao : Option Addr) (n cap mb : Nat) (rs : List Rl) (vs : Value) (W : World) (e : Ending) (W' : World) : Prop :=
  ∃ vs' l', e = .returned (.tuple #[]) ∧ Hid (KnE z w W' kb P K ao n cap mb vs' l' rs) ∧ Hid (KnTo W W' kb mb vs vs') ∧ Hid (∀ s, mayB P K rs l' s = false)
section
variable {z : Nat} {w W W' : World} {kb : Nat} {P K : Nat} {ao : Option Addr} {n cap mb : Nat} {vs vs' : Value} {l l' l1 : List Sp} {rs : List Rl}
theorem TrB.all {fl : Bool} (h : TrB P K rs l l1 fl (fun s => ∃ i : Nat, i < rs.length ∧ s.rule = i)) : fl = false → l1 = l ∧ ∀ s, mayB P K rs l s = false := fun hf => by
  obtain ⟨h1, h2⟩ := h.none hf
  refine ⟨h1, fun s => ?_⟩
  cases hm : mayB P K rs l s with
  | false => rfl
  | true =>
    obtain ⟨i, r, c, m, hr, _, rfl, _⟩ := may_form hm
    have hi : i < rs.length := by
      rcases Nat.lt_or_ge i rs.length with h | h
      · exact h
      · rw [List.getElem?_eq_none h] at hr; cases hr
    have := h2 ⟨i, r.head, c, m⟩ ⟨i, hi, rfl⟩
    rw [hm] at this; cases this
set_option maxRecDepth 100000
set_option maxHeartbeats 3200000
theorem all_spec (h : KnE z w W kb P K ao n cap mb vs l rs) (hn : n < 1000000000) :
    Calls Try.prog 23 #[.pointer (some ⟨kb, 0, none⟩)] W (AllPost z w kb P K ao n cap mb rs vs W) := by
  have HH := Lib.hid h
  clear h
  go_enter Try.func23, Try.ntmps23
  go_wp2_with fail
  go_loopg [2] (P * (P * K) - l.length + 1) (fun g t wy => ∃ (fl : Bool) (ly : List Sp) (vy : Value), t = .bool fl ∧ g = P * (P * K) - ly.length + (if fl = true then 1 else 0) ∧ Hid (KnE z w wy kb P K ao n cap mb vy ly rs) ∧ Hid (KnTo W wy kb mb vs vy) ∧ Hid (fl = false → ∀ s, mayB P K rs ly s = false))
  case atStart => exact ⟨true, l, vs, rfl, rfl, HH.out, KnTo.refl _ _ _ _, fun h => by cases h⟩
  case round =>
    clear HH
    obtain ⟨fl, ly, vy, rfl, rfl, HK, HT, HF⟩ := hrel
    cases fl with
    | false =>
      have HP : Hid (AllPost z w kb P K ao n cap mb rs vs W (.returned (.tuple #[])) wr) := ⟨vy, ly, rfl, HK.out, HT.out, HF.out rfl⟩
      clear HK HT HF
      go_wp2_with fail
      go_end0
      exact HP.out
    | true =>
      clear HF
      obtain ⟨c0, c1, c2, _, _⟩ := HK.out.mem.cells
      have hrs := HK.out.hrs
      have HT0 : Hid (TrB P K rs ly ly false (fun s => ∃ i : Nat, i < 0 ∧ s.rule = i)) := TrB.start.weaken (fun s ⟨_, h, _⟩ => absurd h (Nat.not_lt_zero _))
      go_wp2_with fail
      go_loopg [2, 10] n (fun g s t wy => ∃ (j : Nat) (fl : Bool) (l2 : List Sp) (v2 : Value), j ≤ n ∧ g = n - j ∧ s = .bool fl ∧ t = .int .i64 j ∧ Hid (KnE z w wy kb P K ao n cap mb v2 l2 rs) ∧ Hid (KnTo W wy kb mb vs v2) ∧ Hid (TrB P K rs ly l2 fl (fun s => ∃ i : Nat, i < j ∧ s.rule = i)))
      case atStart => exact ⟨0, false, ly, vy, Nat.zero_le _, rfl, rfl, rfl, HK.out, HT.out, HT0.out⟩
      case round =>
        have HGL := Lib.hid (HK.out.good.le HK.out.hP HK.out.hK)
        clear HT0 HK HT c0 c1 c2
        obtain ⟨j, fl, l2, v2, hj, rfl, rfl, rfl, HK, HT, HB⟩ := hrel
        by_cases hlt : j < n
        · have hjI : (j : Int) < (n : Int) := by omega
          have HC := Lib.hid (tries_spec HK.out j)
          clear HK
          go_wp2_with (go_at_call 32; refine HC.out.mono ?_; rintro e wC ⟨v, v3, l3, rfl, hk3, ht3, hb3⟩; clear HC; cases v)
          · have HN : Hid (TrB P K rs ly l3 fl (fun s => ∃ i : Nat, i < j + 1 ∧ s.rule = i)) := by
              have := HB.out.trans hb3.out
              rw [Bool.false_or] at this
              exact this.weaken (fun s ⟨i, hi, e⟩ => by
                rcases Nat.lt_or_ge i j with h | h
                · exact .inl ⟨i, h, e⟩
                · obtain rfl : i = j := by omega
                  exact .inr e)
            go_roundg (n - (j + 1))
            case measure => omega
            case rel => exact ⟨j + 1, fl, l3, v3, by omega, rfl, rfl, by go_num, hk3.out, HT.out.trans ht3.out, HN.out⟩
          · have HN : Hid (TrB P K rs ly l3 true (fun s => ∃ i : Nat, i < j + 1 ∧ s.rule = i)) := by
              have := HB.out.trans hb3.out
              rw [Bool.true_or] at this
              exact this.weaken (fun s ⟨i, hi, e⟩ => by
                rcases Nat.lt_or_ge i j with h | h
                · exact .inl ⟨i, h, e⟩
                · obtain rfl : i = j := by omega
                  exact .inr e)
            go_roundg (n - (j + 1))
            case measure => omega
            case rel => exact ⟨j + 1, true, l3, v3, by omega, rfl, rfl, by go_num, hk3.out, HT.out.trans ht3.out, HN.out⟩
        · have hjE : j = n := by omega
          have hjI : ¬ (j : Int) < (n : Int) := by omega
          rw [hjE, ← hrs] at HB
          have HA := Lib.hid (HB.out.all)
          have hM : P * (P * K) - l2.length + (if fl = true then 1 else 0) < P * (P * K) - ly.length + 1 := by
            have h2 := HK.out.good.le HK.out.hP HK.out.hK
            have h1 := HGL.out
            cases fl with
            | true => have := HB.out.more rfl; simp; omega
            | false => obtain ⟨rfl, _⟩ := HA.out rfl; simp
          have HM := Lib.hid hM
          clear HB hM
          go_wp2_with fail
          go_roundg (P * (P * K) - l2.length + (if fl = true then 1 else 0))
          case measure => have := HM.out; simpa using this
          case rel => exact ⟨fl, l2, v2, rfl, rfl, HK.out, HT.out, fun hf => by obtain ⟨rfl, h⟩ := HA.out hf; exact h⟩
end
end Go.Proofs.Ytahnedkdodjomaa
