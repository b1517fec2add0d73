/-
 The law UniverseReached, walked.
-/
import Derived.Test.YtckikkkdabpjkaaGreatUniLives
import Derived.Test.YtckikkkdabpjkaaGreatMY
set_option linter.unusedVariables false
set_option linter.unusedSimpArgs false
set_option linter.unnecessarySimpa false
namespace Go.Proofs.YtckikkkdabpjkaaGreat
open Go.ChangeShapes Go.WideShapes Go.ChangeAt Go.RowKit Go.Deep

theorem uni_lens {p : Pol} {q : Qry} {R : List Rol} {Lk : List Str} (h1 : p.1.length ≤ 30) (h2 : p.2.1.length ≤ 30) (h3 : p.2.2.1.length ≤ 30) (hw : OnWay p.2.1 p.2.2.1 p.1 q.2.1 q.2.2.1 R Lk) (hb : (uB p q R Lk).length ≤ 61) : (uBase p.1 R Lk).length ≤ 30 ∧ (fixV p.2.1 p.2.2.1 p.1 R Lk).length ≤ 30 ∧ (uBase p.1 R Lk).length + (fixV p.2.1 p.2.2.1 p.1 R Lk).length ≤ 30 ∧ ∀ N, (uSt p q R Lk N).length ≤ 30 + (uB p q R Lk).length := by
 have a1 : (uBase p.1 R Lk).length ≤ p.1.length := List.length_filter_le _ _
 have a3 : (uBase p.1 R Lk).length + (fixV p.2.1 p.2.2.1 p.1 R Lk).length ≤ p.1.length := by
  have two : ∀ (f g : Stm → Bool) (m : List Stm), (∀ x, f x = true → g x = false) → (m.filter f).length + (m.filter g).length ≤ m.length := by
   intro f g m hfg
   induction m with
   | nil => simp
   | cons x m ih =>
    cases hx : f x with
    | true =>
     rw [List.filter_cons_of_pos hx, List.filter_cons_of_neg (by rw [hfg x hx]; exact Bool.false_ne_true)]
     simp only [List.length_cons]; omega
    | false =>
     rw [List.filter_cons_of_neg (by rw [hx]; exact Bool.false_ne_true)]
     have := List.length_filter_le g [x]
     cases hg : g x with
     | true => rw [List.filter_cons_of_pos hg]; simp only [List.length_cons]; omega
     | false => rw [List.filter_cons_of_neg (by rw [hg]; exact Bool.false_ne_true)]; simp only [List.length_cons]; omega
  have h := two (fun y => !hasV R Lk y.1) (folB p.2.1 p.2.2.1 R Lk) p.1 (fun x hx => by
   have hx : (!hasV R Lk x.1) = true := hx
   unfold folB
   rw [show hasV R Lk x.1 = false by simpa using hx]
   rfl)
  have h5 : (fixV p.2.1 p.2.2.1 p.1 R Lk).length ≤ (p.1.filter (folB p.2.1 p.2.2.1 R Lk)).length := List.length_filter_le _ _
  unfold uBase
  omega
 refine ⟨by omega, by omega, by omega, fun N => ?_⟩
 unfold uSt uState
 refine Nat.le_trans (sortO_len2 stmLt _) ?_
 have := pick_len N (uB p q R Lk) (uB p q R Lk).length
 rw [List.length_append, List.length_append]
 omega
set_option maxRecDepth 100000
set_option maxHeartbeats 6400000
end Go.Proofs.YtckikkkdabpjkaaGreat
