/-
 The document's Prins of a policy.
-/
import Derived.Test.YtckikkkdabpjkaaGreatMZ
import Derived.Test.YtckikkkdabpjkaaGreatMJ
set_option linter.unusedVariables false
set_option linter.unusedSimpArgs false
set_option linter.unnecessarySimpa false
namespace Go.Proofs.YtckikkkdabpjkaaGreat
open Go.ChangeShapes Go.WideShapes Go.ChangeAt Go.RowKit Go.Deep

theorem flat_len_mem {α β : Type} {f : α → List β} {m : Nat} : ∀ l : List α, (∀ x ∈ l, (f x).length ≤ m) → (l.flatMap f).length ≤ m * l.length
 | [], _ => Nat.zero_le _
 | x :: l, h => by
  have := h x (List.mem_cons_self ..)
  have := flat_len_mem l (fun y hy => h y (List.mem_cons_of_mem _ hy))
  rw [List.flatMap_cons, List.length_append, List.length_cons, Nat.mul_succ]
  omega
theorem roles_len {p : Pol} (h : FewR p) : (rolesL p).length ≤ 700 := by
 obtain ⟨h0, h1, h2, h3, _⟩ := h
 have a := flat_len_le rolesS_len p.1
 have b := flat_len_le rolesQ_len p.2.2.2
 unfold rolesL
 simp only [List.length_append]
 omega
theorem prinsS_len (x : Stm) : (prinsS x).length ≤ 1 := by
 unfold prinsS
 split <;> simp
theorem viasS_len (x : Stm) : (viasS x).length ≤ 1 := by
 unfold viasS
 split <;> simp
set_option maxRecDepth 100000
set_option maxHeartbeats 6400000
end Go.Proofs.YtckikkkdabpjkaaGreat
