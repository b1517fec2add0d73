/-
  A region that draws its order: the condition that is held may be changed on the way.
-/
import Derived.Test.YtahnedkdodjomaaKit
import Derived.Deep.RegionHeld3
import Derived.Test.YtahnedkdodjomaaMB
import Derived.Deep.QuietTactic
import Derived.BigQuiet
set_option linter.unusedVariables false
namespace Go.Proofs.Ytahnedkdodjomaa
open Go
theorem wpAnyH_change {P : Program} {md : Region.Mode} {ops : Array Oper} {Q : Exit → Act → World → Prop} {S S' : World → Prop} (hs : ∀ w, S' w → S w) :
    ∀ (fuel : Nat) (listed : Array Bool) (a : Act) (w : World), wpAnyH P md ops Q S' fuel listed a w → wpAnyH P md ops Q S fuel listed a w
  | 0, _, _, _, h => h
  | fuel + 1, _, _, _, h => ⟨h.1, fun i hi => wpOp_mono (fun a' w' h' => ⟨hs _ h'.1, wpAnyH_change hs fuel _ a' w' h'.2⟩) (h.2 i hi)⟩
theorem get_at {ops : Array Oper} {i : Nat} {oi : Oper} {rest : List Oper} (h : ops.toList.drop i = oi :: rest) : ops[i]? = some oi := by
  have := congrArg (fun l => l[0]?) h
  simpa using this
/-- As 'wpAnyH_take': the operation comes written out of the list's rest. -/
theorem wpAnyH_take_at {P : Program} {md : Region.Mode} {ops : Array Oper} {Q : Exit → Act → World → Prop} {S : World → Prop} {i : Nat} {oi : Oper} {rest : List Oper} {v : Value} {fuel : Nat} {listed : Array Bool} {a : Act} {w : World} (hi : ops.toList.drop i = oi :: rest)
    (hs : Region.noSelect ops = true) (hf : Region.free md ops listed i = true) (hr : (Region.ready md ops listed).contains i = true)
    (hQ : ∀ c a w, Q (.panic c) (a.put oi.dst v) w → Q (.panic c) a w) (hy : YieldsIf P ops S oi v a) (hS : S w)
    (h : wpAnyH P md ops Q S fuel (listed.setIfInBounds i true) (a.put oi.dst v) w) : wpAnyH P md ops Q S (fuel + 1) listed a w :=
  wpAnyH_take (get_at hi) hs hf hr hQ hy hS h
/-- As 'AllReadyH.cons', for one operation alone. -/
theorem wpAnyH_one {P : Program} {md : Region.Mode} {ops : Array Oper} {Q : Exit → Act → World → Prop} {S : World → Prop} {i : Nat} {o : Oper} {rest : List Oper} {fuel : Nat} {listed : Array Bool} {a : Act} {w : World} (hr : Region.ready md ops listed = [i]) (hi : ops.toList.drop i = o :: rest)
    (h : ∀ K' : Act → World → Prop, Shut (∀ a w, S w → (S w → wpAnyH P md ops Q S fuel (listed.setIfInBounds i true) a w) → K' a w) → if Region.wanted o (yielded ops a.tmps) = true then Oper.wp P o a w K' Q else K' (a.put o.dst undef) w) :
    wpAnyH P md ops Q S (fuel + 1) listed a w :=
  wpAnyH_ready hr (by simp) (AllReadyH.cons (get_at hi) h AllReadyH.nil)
end Go.Proofs.Ytahnedkdodjomaa
/-
  The walk of the maker's put.
-/
set_option linter.unusedVariables false
set_option linter.unusedSimpArgs false
set_option linter.unnecessarySimpa false
namespace Go.Proofs.Ytahnedkdodjomaa
open Go.ChangeShapes Go.WideShapes Go.ChangeAt Go.RowKit Go.Deep SetPlain
def PutC (M : Mk) (x : Nat) (r : Rl) (W : World) : Prop :=
  W.cell? ⟨M.mb, 1, none⟩ = some (.slice (some ⟨M.bb, 0, none⟩) M.N M.N) ∧ W.cell? ⟨M.mb, 2, none⟩ = some (.slice (some ⟨M.vb, 0, none⟩) M.K M.K) ∧ W.cell? ⟨x, 0, none⟩ = some (.int .i64 r.kind) ∧ W.cell? ⟨x, 1, none⟩ = some (.int .i64 r.head) ∧ W.cell? ⟨x, 2, none⟩ = some (.int .i64 r.who) ∧ W.cell? ⟨x, 3, none⟩ = some (.int .i64 r.a) ∧ W.cell? ⟨x, 4, none⟩ = some (.int .i64 r.b) ∧ W.cell? ⟨x, 5, none⟩ = some (.int .i64 r.via)
theorem PutS.cells {M : Mk} {vr : Nat → Value} {x : Nat} {r : Rl} {W : World} (h : PutS M vr x r W) : PutC M x r W := ⟨h.by_, h.via_, h.rule⟩
section
variable {W : World} {M : Mk} {vr : Nat → Value} {L : Nat → List Rl} {s : St} {vq : Value}
theorem Keeps.two {W' : World} (o : Obj) : Keeps (fun _ => False) W (W.drew.alloc o) := ((Keeps.refl _ _).drew).alloc _
end
end Go.Proofs.Ytahnedkdodjomaa
/-
  The maker's put, of any rule that may be.
-/
set_option linter.unusedVariables false
set_option linter.unusedSimpArgs false
set_option linter.unnecessarySimpa false
namespace Go.Proofs.Ytahnedkdodjomaa
open Go.ChangeShapes Go.WideShapes Go.ChangeAt Go.RowKit Go.Deep SetPlain
theorem addL_put {N : Nat} {L : Nat → List Rl} {r : Rl} {g : Nat} (h : ∀ i, keepB N r i = decide (i = g)) : addL L g r = putRow N r L := by
  funext i
  unfold addL putRow
  rw [h i]
  simp
theorem addL_put2 {N : Nat} {L : Nat → List Rl} {r : Rl} {g g2 : Nat} (hne : g ≠ g2) (h : ∀ i, keepB N r i = (decide (i = g) || decide (i = g2))) : addL (addL L g r) g2 r = putRow N r L := by
  funext i
  unfold addL putRow
  rw [h i]
  by_cases e : i = g
  · subst e; rw [if_neg hne]; simp
  · by_cases e2 : i = g2
    · subst e2; simp [e]
    · simp [e, e2]
theorem putRow_none {N : Nat} {L : Nat → List Rl} {r : Rl} (h : ∀ i, keepB N r i = false) : putRow N r L = L := by
  funext i
  unfold putRow
  rw [h i]; simp
section
variable {W : World} {M : Mk} {vr : Nat → Value} {L : Nat → List Rl} {s : St} {vq : Value}
end
end Go.Proofs.Ytahnedkdodjomaa
/-
  The walk of the maker's look.
-/
set_option linter.unusedVariables false
set_option linter.unusedSimpArgs false
set_option linter.unnecessarySimpa false
namespace Go.Proofs.Ytahnedkdodjomaa
open Go.ChangeShapes Go.WideShapes Go.ChangeAt Go.RowKit Go.Deep SetPlain
section
variable {W : World} {M : Mk} {vr : Nat → Value} {L : Nat → List Rl} {s : St} {vq : Value}
end
end Go.Proofs.Ytahnedkdodjomaa
/-
  May a rule be? (the program's table.Right)
-/
set_option linter.unusedVariables false
set_option linter.unusedSimpArgs false
set_option linter.unnecessarySimpa false
namespace Go.Proofs.Ytahnedkdodjomaa
open Go.ChangeShapes Go.WideShapes Go.ChangeAt Go.RowKit Go.Deep SetPlain
set_option maxRecDepth 10000 in
set_option maxHeartbeats 800000 in
theorem rule_eql (k h w1 a1 b1 v1 w2 a2 b2 v2 : Int) (w : World) :
    (binOp .eql 39 (.agg #[.int .i64 k, .int .i64 h, .int .i64 w1, .int .i64 a1, .int .i64 b1, .int .i64 v1]) (.agg #[.int .i64 k, .int .i64 h, .int .i64 w2, .int .i64 a2, .int .i64 b2, .int .i64 v2])).run Try.prog w = .ok (.bool (decide (w1 = w2 ∧ a1 = a2 ∧ b1 = b2 ∧ v1 = v2))) w := by
  by_cases h0 : w1 = w2
  · subst h0
    by_cases h1 : a1 = a2
    · subst h1
      by_cases h2 : b1 = b2
      · subst h2
        by_cases h3 : v1 = v2
        · subst h3
          simp [go_sem]
        · have h3' : (v1 == v2) = false := by simpa using h3
          simp [go_sem, h3', h3]
      · have h3' : (b1 == b2) = false := by simpa using h2
        simp [go_sem, h3', h2]
    · have h3' : (a1 == a2) = false := by simpa using h1
      simp [go_sem, h3', h1]
  · have h3' : (w1 == w2) = false := by simpa using h0
    simp [go_sem, h3', h0]
set_option maxRecDepth 10000 in
set_option maxHeartbeats 800000 in
theorem role_spec {W : World} {x3 x4 : Nat} {p k : Int} (h3 : W.cell? ⟨x3, 0, none⟩ = some (.int .i64 p)) (h4 : W.cell? ⟨x4, 0, none⟩ = some (.int .i64 k)) (hp0 : 0 ≤ p) (hp1 : p ≤ 1000) (hk0 : 0 ≤ k) (hk1 : k ≤ 1000) (i : Int) :
    Calls Try.prog 53 #[.int .i64 i, .pointer (some ⟨x3, 0, none⟩), .pointer (some ⟨x4, 0, none⟩)] W fun e W' => e = .returned (.bool (roleB p k i)) ∧ W = W' := by
  have hpk0 : 0 ≤ p * k := Int.mul_nonneg hp0 hk0
  have hpk1 : p * k ≤ 1000 * 1000 := Int.mul_le_mul hp1 hk1 hk0 (by omega)
  obtain ⟨m, hm⟩ : ∃ m, p * k = m := ⟨_, rfl⟩
  rw [hm] at hpk0 hpk1
  have hw : IntKind.i64.wrap (p * k) = m := by rw [hm]; exact IntWalk.i64_in _ (by omega)
  unfold roleB
  rw [hm]
  clear hm
  rcases Int.lt_or_le i 0 with h0 | h0
  · have hr : decide (0 ≤ i ∧ i < m) = false := by rw [decide_eq_false_iff_not]; omega
    rw [hr]
    go_enter Try.func53, Try.ntmps53
    go_wp2
    go_ret
    exact ⟨rfl, rfl⟩
  · rcases Int.lt_or_le i m with h1 | h1
    · have hr : decide (0 ≤ i ∧ i < m) = true := by rw [decide_eq_true_iff]; omega
      rw [hr]
      go_enter Try.func53, Try.ntmps53
      go_wp2
      go_ret
      exact ⟨by simp [h1], rfl⟩
    · have hr : decide (0 ≤ i ∧ i < m) = false := by rw [decide_eq_false_iff_not]; omega
      rw [hr]
      go_enter Try.func53, Try.ntmps53
      go_wp2
      go_ret
      exact ⟨by simp; omega, rfl⟩
end Go.Proofs.Ytahnedkdodjomaa
