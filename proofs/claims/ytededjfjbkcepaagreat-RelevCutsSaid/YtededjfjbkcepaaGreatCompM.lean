/-
 The library's Clone and Compact at statements.
-/
import Derived.Test.YtededjfjbkcepaaGreatMG
import Derived.Test.YtededjfjbkcepaaGreatCmpPlain
import Derived.Deep.LoopGhost
import Derived.BigQuiet
import Derived.Deep.QuietTactic
import Derived.WalkSpells
set_option linter.unusedVariables false
set_option linter.unusedSimpArgs false
set_option linter.unnecessarySimpa false
namespace Go.Proofs.YtededjfjbkcepaaGreat
open Go.ChangeShapes Go.WideShapes Go.ChangeAt Go.RowKit Go.Deep
set_option maxRecDepth 100000
set_option maxHeartbeats 6400000
theorem cloneM_spec {W : World} {v : Value} {l : List Stm} (h : SrcK stmE W v l) (hl : l.length ≤ 10000) :
 Calls Tryz.prog 109 #[v] W fun e W' => ∃ v', e = .returned v' ∧ Hid (Keeps (fun _ => False) W W' ∧ OwnK stmE W.heap.size W' v' l) := by
 obtain ⟨⟨ao, cap, rfl, hle, hr⟩, hnil⟩ := id h
 have HS := Lib.hid h
 cases ao with
 | none =>
  have hcap := hnil _ _ rfl
  subst hcap
  obtain rfl : l = [] := List.eq_nil_of_length_eq_zero (by omega)
  have hqn : ∀ (w : World), (binOp .eql 22 (.slice none 0 0) (.slice none 0 0)).run Tryz.prog w = .ok (.bool true) w := fun w => Lib.run_eql_slice_nil w _ 38 none 0 0 0 0 Tryz.underlying22
  clear hr hnil h HS hle
  go_enter Tryz.func109, Tryz.ntmps109
  go_wp2_with fail
  go_ret
  exact ⟨_, rfl, Keeps.refl _ _, ownK_nil stmE _ _⟩
 | some ad =>
  obtain ⟨nl, hnl⟩ : ∃ nl, l.length = nl := ⟨_, rfl⟩
  rw [hnl] at hle hl HS ⊢
  have HN := Lib.hid hnl
  have hqn : ∀ (w : World) (n c : Nat), (binOp .eql 22 (.slice (some ad) n c) (.slice none 0 0)).run Tryz.prog w = .ok (.bool false) w := fun w n c => Lib.run_eql_slice_nil w _ 38 (some ad) n c 0 0 Tryz.underlying22
  clear hr hnil h hnl
  go_enter Tryz.func109, Tryz.ntmps109
  go_wp2_with (at_builtin; refine app_k (E := stmE) rfl _ _ rfl W.heap.size _ [] rfl (ownK_lit stmE (Nat.le_refl _)) _ l rfl (HS.out.keeps ((Keeps.refl _ _).alloc _)) (by have := HN.out; simp <;> omega) (by simp <;> omega) ?_)
  intro rv w4 hro hk4
  (try rw [List.nil_append] at hro)
  have HE : Hid (Keeps (fun _ => False) W w4 ∧ OwnK stmE W.heap.size w4 rv l) := ⟨((Keeps.refl (fun _ => False) W).alloc _).trans_new hk4 (fun q hq e => by simp [Value.ownBlock] at e; omega), hro⟩
  clear hro hk4 HS
  go_wp2_with fail
  go_ret
  exact ⟨_, rfl, HE⟩
end Go.Proofs.YtededjfjbkcepaaGreat
