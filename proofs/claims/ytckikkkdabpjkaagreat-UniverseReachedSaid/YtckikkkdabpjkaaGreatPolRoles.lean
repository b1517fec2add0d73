/-
 The document's Roles of a policy.
-/
import Derived.Test.YtckikkkdabpjkaaGreatPolSame
import Derived.Test.YtckikkkdabpjkaaGreatMA
set_option linter.unusedVariables false
set_option linter.unusedSimpArgs false
set_option linter.unnecessarySimpa false
namespace Go.Proofs.YtckikkkdabpjkaaGreat
open Go.ChangeShapes Go.WideShapes Go.ChangeAt Go.RowKit Go.Deep
/-- No row of a policy is long. -/
def FewR (p : Pol) : Prop := p.1.length ≤ 100 ∧ p.2.1.length ≤ 100 ∧ p.2.2.1.length ≤ 100 ∧ p.2.2.2.length ≤ 100 ∧ ∀ q ∈ p.2.2.2, q.2.2.2.length ≤ 20
theorem rolesS_len (x : Stm) : (rolesS x).length ≤ 3 := by
 unfold rolesS
 split <;> split <;> simp
theorem rolesQ_len (x : Qry) : (rolesQ x).length ≤ 2 := by
 unfold rolesQ
 split <;> simp
theorem flat_len_le {α β : Type} {f : α → List β} {m : Nat} (h : ∀ x, (f x).length ≤ m) : ∀ l : List α, (l.flatMap f).length ≤ m * l.length
 | [] => Nat.zero_le _
 | x :: l => by
  have := h x
  have := flat_len_le h l
  rw [List.flatMap_cons, List.length_append, List.length_cons, Nat.mul_succ]
  omega
theorem flat_next {α β : Type} (f : α → List β) {l : List α} {i : Nat} {y : α} (h : l[i]? = some y) : (l.take (i + 1)).flatMap f = (l.take i).flatMap f ++ f y := by
 rw [List.take_add_one, h, List.flatMap_append]
 simp
section
variable {α : Type} {E : Elt α}
end
set_option maxRecDepth 100000
set_option maxHeartbeats 6400000
end Go.Proofs.YtckikkkdabpjkaaGreat
