/-
  What the law ProofTells calls, all in one form.
-/
import Derived.Test.YtahnedkdodjomaaProofLivesWalk
import Derived.Test.YtahnedkdodjomaaProofDead
import Derived.Test.YtahnedkdodjomaaProofCheck
import Derived.Test.YtahnedkdodjomaaProofNeeded
import Derived.Test.YtahnedkdodjomaaRefEval
set_option linter.unusedVariables false
set_option linter.unusedSimpArgs false
set_option linter.unnecessarySimpa false
namespace Go.Proofs.Ytahnedkdodjomaa
open Go.ChangeShapes Go.WideShapes Go.ChangeAt Go.RowKit Go.Deep SetPlain
def DerAt (P K : Nat) (rs : List Rl) (a b : Int) : Prop := ∃ i c : Nat, a = i ∧ b = c ∧ Der K (rs.filter (fun r => rightB P K r)) i c
section
variable {W : World} {P K : Nat} {rs : List Rl} {ao : Option Addr} {n cap : Nat}
theorem der_zero (h0 : P * K = 0) {a b : Int} : ¬ DerAt P K rs a b := by
  rintro ⟨i, c, _, _, d⟩
  have hno : ∀ r, r ∈ rs.filter (fun r => rightB P K r) → False := fun r hr => by
    have := (right_iff (List.mem_filter.1 hr).2).1
    omega
  cases d with
  | mem r h1 _ => exact hno r h1
  | incl r _ h1 _ _ => exact hno r h1
  | link r _ _ h1 _ _ _ => exact hno r h1
  | both r _ h1 _ _ _ => exact hno r h1
theorem why_law {d0 d1 : Int} (hP : Within d0 64 P) (hK : Within d1 64 K) (h0 : d0 ≤ 10) (h1 : d1 ≤ 6) (hR : RuleRow W ao rs) (hrs : rs.length = n) (hcap : n ≤ cap) (hn : n ≤ 60) {a b : Int} (ha : I64 a) (hb : I64 b) :
    Calls Try.prog 12 #[.int .i64 d0, .int .i64 d1, .slice ao n cap, .int .i64 a, .int .i64 b] W (fun e W' => ∃ ok v, e = .returned (.tuple #[v, .bool ok]) ∧ Keeps (fun _ => False) W W' ∧ Hid (ok = true ↔ DerAt P K rs a b) ∧ Hid (ok = false → ∃ so sc, v = .slice so 0 sc) ∧
      Hid (ok = true → d0 = P ∧ d1 = K ∧ ∃ out, Told P K rs a b out ∧ TailRow W' 30 4 v out.length (spCells out))) := by
  unfold Within at hP hK
  by_cases hd : d0 < 0 ∨ d1 < 0
  · refine (why_dead hd (by omega) (by omega) hR hrs hcap (by omega) ha hb).mono ?_
    rintro e W' ⟨rfl, hbl⟩
    refine ⟨false, .slice none 0 0, rfl, Keeps.of_below hbl (Nat.le_refl _), ⟨fun h => (by cases h), fun h => absurd h (der_zero ?_)⟩, fun _ => ⟨_, _, rfl⟩, fun h => by cases h⟩
    rcases hd with h | h
    · rw [show P = 0 by omega, Nat.zero_mul]
    · rw [show K = 0 by omega, Nat.mul_zero]
  · obtain rfl : d0 = P := by omega
    obtain rfl : d1 = K := by omega
    have hPl : P ≤ 64 := by omega
    have hKl : K ≤ 64 := by omega
    refine (why_spec hR hrs hcap hPl hKl (by omega) ha hb).mono ?_
    rintro e W' ⟨v, ok, out, rfl, hbl, hans, ht⟩
    obtain ⟨q1, q2, q3, q4⟩ := hans.out.told hPl hKl
    refine ⟨ok, v, rfl, Keeps.of_below hbl (Nat.le_refl _), ⟨fun h => ?_, ?_⟩, fun h => ?_, fun h => ⟨rfl, rfl, out, q1 h, ht.out⟩⟩
    · obtain ⟨r0, _, r1, _⟩ := q3 h
      exact ⟨a.toNat, b.toNat, by omega, by omega, (q4 a.toNat b.toNat (by omega) (by omega)).1 h⟩
    · rintro ⟨i, c, rfl, rfl, d⟩
      exact (q4 i c rfl rfl).2 d
    · have e := q2 h
      subst e
      obtain ⟨so, sc, hv, _⟩ := ht.out.form
      exact ⟨so, sc, hv⟩
/-- The document's Eval, from a world on in which only new memory is written. -/
theorem reval_law {p k : Int} (hP : Within p 64 P) (hK : Within k 64 K) (hp : p ≤ 64) (hk0 : k ≤ 64) (hrs : rs.length = n) (hn : n ≤ 1000) (hcap : n ≤ cap) (hR : RuleRow W ao rs) :
    Calls Try.prog 13 #[.int .i64 p, .int .i64 k, .slice ao n cap] W fun e W' => ∃ b, e = .returned (.pointer (some ⟨b, 0, none⟩)) ∧ Hid (∃ ao1 cap1 rb In, RefM W' b ao1 cap1 rb P K (P * K) In ∧ ∀ x y, hasB (P * K) P In x y = true ↔ DerAt P K rs x y) ∧ Keeps (fun _ => False) W W' := by
  refine (reval_spec p k P K hP hK hp hk0 rs n hrs hn ao cap W hR hcap).mono ?_
  rintro e W' ⟨b, rfl, hl⟩
  obtain ⟨ao1, cap1, rb, In, hre, hsnd, hder⟩ := hl.out
  refine ⟨b, rfl, ⟨ao1, cap1, rb, In, hre.mem, fun x y => ⟨fun h => ?_, ?_⟩⟩, Keeps.of_below hre.base (Nat.le_refl _)⟩
  · unfold hasB rowP at h
    rw [Bool.and_eq_true] at h
    have hy := of_decide_eq_true h.1
    have h2 := h.2
    split at h2
    · exact ⟨x.toNat, y.toNat, by omega, by omega, (hsnd _ _ h2).2.2⟩
    · cases h2
  · rintro ⟨i, c, rfl, rfl, d⟩
    have h := hder i c d
    obtain ⟨q1, q2, _⟩ := hsnd i c h
    unfold hasB rowP
    rw [Bool.and_eq_true]
    refine ⟨decide_eq_true (by omega), ?_⟩
    rw [if_pos (by omega)]
    exact h
end
end Go.Proofs.Ytahnedkdodjomaa
