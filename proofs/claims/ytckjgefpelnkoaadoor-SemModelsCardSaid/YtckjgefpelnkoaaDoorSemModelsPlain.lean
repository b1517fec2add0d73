/-
  All rules hold in what follows of them; and what is in follows by one of them. Plain.
-/
import Derived.Test.YtckjgefpelnkoaaDoorSemHolds
import Derived.Test.YtckjgefpelnkoaaDoorSemFollows
set_option linter.unusedVariables false
set_option linter.unusedSimpArgs false
namespace Go.Proofs.YtckjgefpelnkoaaDoor
open Go.ChangeShapes Go.WideShapes Go.ChangeAt Go.RowKit Go.Deep SetPlain
section
variable {P K : Nat} {In : Nat → Nat → Bool} {rs : List Rl}
theorem rowP_int {N : Nat} {In : Nat → Nat → Bool} {i : Int} (h0 : 0 ≤ i) (h1 : i < (N : Int)) : rowP N In i = In i.toNat := by unfold rowP; rw [if_pos ⟨h0, h1⟩]
theorem hasB_int {N P : Nat} {In : Nat → Nat → Bool} {i c : Int} (h0 : 0 ≤ i) (h1 : i < (N : Int)) (c0 : 0 ≤ c) (c1 : c < (P : Int)) : hasB N P In i c = In i.toNat c.toNat := by
  unfold hasB
  rw [rowP_int h0 h1, decide_eq_true ⟨c0, c1⟩, Bool.true_and]
theorem mul_lt {x v P K : Nat} (hx : x < P) (hv : v < K) : x * K + v < P * K := by
  have h1 := Nat.mul_le_mul_right K hx
  rw [Nat.succ_mul] at h1
  omega
theorem link_at {x : Nat} {via : Int} (hx : x < P) (h0 : 0 ≤ via) (h1 : via < (K : Int)) : 0 ≤ (x : Int) * (K : Int) + via ∧ (x : Int) * (K : Int) + via < ((P * K : Nat) : Int) ∧ ((x : Int) * (K : Int) + via).toNat = x * K + via.toNat := by
  have h2 := mul_lt hx (show via.toNat < K by omega)
  have h3 : (x : Int) * (K : Int) = ((x * K : Nat) : Int) := by simp
  rw [h3]
  omega
/-- A rule that may be, of those that a model was made of, holds in it. -/
theorem holds_of_rule (hd : ∀ i c, In i c = true ↔ Der K (rs.filter (fun r => rightB P K r)) i c) {r : Rl} (hr : r ∈ rs) (hR : rightB P K r = true) : holdsB P K In r = true := by
  have hm : r ∈ rs.filter (fun r => rightB P K r) := List.mem_filter.2 ⟨hr, hR⟩
  obtain ⟨⟨hh0, hh1⟩, hcase⟩ := right_iff hR
  unfold holdsB
  rw [hR, Bool.true_and]
  rcases hcase with ⟨k1, hw0, hw1⟩ | ⟨k2, ha0, ha1⟩ | ⟨k3, ha0, ha1, hv0, hv1⟩ | ⟨k4, ha0, ha1, hb0, hb1⟩
  · rw [if_pos k1, hasB_int hh0 hh1 hw0 hw1]
    exact (hd _ _).2 (.mem r hm k1)
  · rw [if_neg (by omega), if_pos k2, allIn_iff]
    intro c hc h
    rw [rowP_int ha0 ha1] at h
    rw [rowP_int hh0 hh1]
    exact (hd _ _).2 (.incl r c hm k2 ((hd _ _).1 h))
  · rw [if_neg (by omega), if_neg (by omega), if_pos k3, List.all_eq_true]
    intro x hx
    obtain ⟨hxP, hxa⟩ := listTo_lt _ _ _ hx
    rw [rowP_int ha0 ha1] at hxa
    unfold hold3
    obtain ⟨l0, l1, l2⟩ := link_at (P := P) hxP hv0 hv1
    rw [allIn_iff]
    intro c hc h
    rw [rowP_int l0 l1, l2] at h
    rw [rowP_int hh0 hh1]
    exact (hd _ _).2 (.link r x c hm k3 ((hd _ _).1 hxa) ((hd _ _).1 h))
  · rw [if_neg (by omega), if_neg (by omega), if_neg (by omega), List.all_eq_true]
    intro x hx
    obtain ⟨hxP, hxa⟩ := listTo_lt _ _ _ hx
    rw [rowP_int ha0 ha1] at hxa
    unfold hold4
    rw [hasB_int hb0 hb1 (by omega) (by omega), hasB_int hh0 hh1 (by omega) (by omega), Int.toNat_natCast]
    cases hb : In r.b.toNat x with
    | false => rfl
    | true =>
      rw [(hd _ _).2 (.both r x hm k4 ((hd _ _).1 hxa) ((hd _ _).1 hb))]
      rfl
/-- Who is in a role is so by one of the rules. -/
theorem follows_of_in (hd : ∀ i c, In i c = true ↔ Der K (rs.filter (fun r => rightB P K r)) i c) (hout : ∀ i c, In i c = true → c < P) {role who : Nat} (h : In role who = true) : rs.any (fol1 P K In role who) = true := by
  have hfin : ∀ r, r ∈ rs.filter (fun r => rightB P K r) → r.head.toNat = role → (r.kind = 1 ∧ r.who.toNat = who ∨ r.kind = 2 ∧ In r.a.toNat who = true ∨ (∃ x, r.kind = 3 ∧ In r.a.toNat x = true ∧ In (x * K + r.via.toNat) who = true) ∨ r.kind = 4 ∧ In r.a.toNat who = true ∧ In r.b.toNat who = true) → rs.any (fol1 P K In role who) = true := fun r hr hh hc => by
    obtain ⟨hm, hR⟩ := List.mem_filter.1 hr
    obtain ⟨⟨hh0, hh1⟩, hcase⟩ := right_iff hR
    have hwP := hout _ _ h
    refine List.any_eq_true.2 ⟨r, hm, ?_⟩
    unfold fol1
    rw [hR, decide_eq_true (show r.head = (role : Int) by omega), Bool.true_and, Bool.true_and]
    rcases hc with ⟨k1, hw⟩ | ⟨k2, ha⟩ | ⟨x, k3, hx, hy⟩ | ⟨k4, ha, hb⟩
    · rw [if_pos k1]
      have : r.who = (who : Int) := by omega
      exact decide_eq_true this
    · rw [if_neg (by omega), if_pos k2, hasB_int (by omega) (by omega) (by omega) (by omega), Int.toNat_natCast]
      exact ha
    · rw [if_neg (by omega), if_neg (by omega), if_pos k3]
      have hr3 : 0 ≤ r.a ∧ r.a < ((P * K : Nat) : Int) ∧ 0 ≤ r.via ∧ r.via < K := by omega
      have hxP := hout _ _ hx
      obtain ⟨l0, l1, l2⟩ := link_at (P := P) hxP hr3.2.2.1 hr3.2.2.2
      refine List.any_eq_true.2 ⟨x, listTo_mem P hxP (by rw [rowP_int hr3.1 hr3.2.1]; exact hx), ?_⟩
      rw [hasB_int l0 l1 (by omega) (by omega), l2, Int.toNat_natCast]
      exact hy
    · rw [if_neg (by omega), if_neg (by omega), if_neg (by omega), hasB_int (by omega) (by omega) (by omega) (by omega), hasB_int (by omega) (by omega) (by omega) (by omega), Int.toNat_natCast, ha, hb]
      rfl
  cases (hd _ _).1 h with
  | mem r h1 h2 => exact hfin r h1 rfl (.inl ⟨h2, rfl⟩)
  | incl r c h1 h2 d => exact hfin r h1 rfl (.inr (.inl ⟨h2, (hd _ _).2 d⟩))
  | link r x c h1 h2 d1 d2 => exact hfin r h1 rfl (.inr (.inr (.inl ⟨x, h2, (hd _ _).2 d1, (hd _ _).2 d2⟩)))
  | both r c h1 h2 d1 d2 => exact hfin r h1 rfl (.inr (.inr (.inr ⟨h2, (hd _ _).2 d1, (hd _ _).2 d2⟩)))
end
end Go.Proofs.YtckjgefpelnkoaaDoor
