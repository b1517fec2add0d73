/-
  Steps of a region that draws its order, in short words.
-/
import Derived.Test.YtckikkkdabpjkaaGreatKit3
import Derived.Tactics
set_option linter.unusedVariables false
namespace Go.Proofs.YtckikkkdabpjkaaGreat
open Go
/-- Nothing that was there is changed. -/
abbrev KF (W W' : World) : Prop := Keeps (fun _ => False) W W'
theorem nz : (∀ (a : Act) (d : Option Tmp) (v : Value), a.put d v = match d with | some d => { a with tmps := a.tmps.setIfInBounds d v } | none => a) ∧ (∀ {α : Type} (l : List α) (i : Nat) (a : α), l.toArray.setIfInBounds i a = (l.set i a).toArray) ∧ (∀ {α : Type} (a b : α) (l : List α), (a :: l).set 0 b = b :: l) ∧ (∀ {α : Type} (a b : α) (l : List α) (n : Nat), (a :: l).set (n + 1) b = a :: l.set n b) := ⟨fun _ _ _ => rfl, nm1, nm2, nm3⟩
abbrev bM (k : Int) (h1 h2 o a1 a2 b1 b2 i : List UInt8) : Obj := .cells #[.int .i64 k, .string ⟨h1.toArray⟩, .string ⟨h2.toArray⟩, .string ⟨o.toArray⟩, .string ⟨a1.toArray⟩, .string ⟨a2.toArray⟩, .string ⟨b1.toArray⟩, .string ⟨b2.toArray⟩, .string ⟨i.toArray⟩] 38
abbrev bR (a b : List UInt8) : Obj := .cells #[.string ⟨a.toArray⟩, .string ⟨b.toArray⟩] 28
abbrev bP (ao : Option Addr) (an ac : Nat) (bo : Option Addr) (bn bc : Nat) (co : Option Addr) (cn cc : Nat) (jo : Option Addr) (jn jc : Nat) : Obj := .cells #[.slice ao an ac, .slice bo bn bc, .slice co cn cc, .slice jo jn jc] 26
abbrev bQ (k : Int) (a1 a2 b1 b2 : List UInt8) (wo : Option Addr) (wn wc : Nat) : Obj := .cells #[.int .i64 k, .string ⟨a1.toArray⟩, .string ⟨a2.toArray⟩, .string ⟨b1.toArray⟩, .string ⟨b2.toArray⟩, .slice wo wn wc] 31
theorem kc {w w' : World} (hk : KF w w') {p : Addr} {v : Value} (h : w.cell? p = some v) : w'.cell? p = some v := (hk.cell (World.block_lt_of_cell? _ _ h) (fun x => x)).trans h
section
variable {P : Program} {md : Region.Mode} {ops : Array Oper} {Q : Exit → Act → World → Prop} {S : World → Prop} {fuel : Nat} {listed : Array Bool} {a : Act} {w : World}
/-- A quiet operation that is ready is taken. -/
theorem tk (i : Nat) {oi : Oper} {rest : List Oper} {v : Value} (hi : ops.toList.drop i = oi :: rest) (hS : S w) (h : wpAnyH P md ops Q S fuel (listed.setIfInBounds i true) (a.put oi.dst v) w)
  (hs : Region.noSelect ops = true := by kernel_rfl) (hf : Region.free md ops listed i = true := by kernel_rfl) (hr : (Region.ready md ops listed).contains i = true := by kernel_rfl)
  (hQ : ∀ c a w, Q (.panic c) (a.put oi.dst v) w → Q (.panic c) a w := by exact fun _ _ _ h => h)
  (hy : YieldsIf P ops S oi v a := by exact Or.inl ⟨by rfl, by (intro w hSw; (try dsimp only at hSw); go_simp; first | done | with_reducible rfl)⟩) : wpAnyH P md ops Q S (fuel + 1) listed a w :=
  wpAnyH_take (get_at hi) hs hf hr hQ hy hS h
/-- One that its guard leaves out. -/
theorem tks (i : Nat) {oi : Oper} {rest : List Oper} (hi : ops.toList.drop i = oi :: rest) (hS : S w) (h : wpAnyH P md ops Q S fuel (listed.setIfInBounds i true) (a.put oi.dst undef) w)
  (hs : Region.noSelect ops = true := by kernel_rfl) (hf : Region.free md ops listed i = true := by kernel_rfl) (hr : (Region.ready md ops listed).contains i = true := by kernel_rfl)
  (hQ : ∀ c a w, Q (.panic c) (a.put oi.dst undef) w → Q (.panic c) a w := by exact fun _ _ _ h => h)
  (hy : YieldsIf P ops S oi undef a := by exact Or.inr ⟨by rfl, rfl⟩) : wpAnyH P md ops Q S (fuel + 1) listed a w :=
  wpAnyH_take (get_at hi) hs hf hr hQ hy hS h
/-- The one that is ready. -/
theorem on1 (i : Nat) {o : Oper} {rest : List Oper} (hi : ops.toList.drop i = o :: rest)
  (h : ∀ K' : Act → World → Prop, Shut (∀ a w, S w → (S w → wpAnyH P md ops Q S fuel (listed.setIfInBounds i true) a w) → K' a w) → if Region.wanted o (yielded ops a.tmps) = true then Oper.wp P o a w K' Q else K' (a.put o.dst undef) w)
  (hr : Region.ready md ops listed = [i] := by kernel_rfl) : wpAnyH P md ops Q S (fuel + 1) listed a w := wpAnyH_one hr hi h
end
end Go.Proofs.YtckikkkdabpjkaaGreat
