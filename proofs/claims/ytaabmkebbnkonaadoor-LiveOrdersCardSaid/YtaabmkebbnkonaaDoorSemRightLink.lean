/-
  The walk of the program's table.Right: the third kind.
-/
import Derived.Test.YtaabmkebbnkonaaDoorSemRightLeaf
set_option linter.unusedVariables false
set_option linter.unusedSimpArgs false
set_option linter.unnecessarySimpa false
namespace Go.Proofs.YtaabmkebbnkonaaDoor
open Go.ChangeShapes Go.WideShapes Go.ChangeAt Go.RowKit Go.Deep SetPlain
set_option maxRecDepth 100000
theorem right_k3a (W : World) (p k head who a b via : Int) (hp0 : 0 ≤ p) (hk0 : 0 ≤ k) (hp1 : p ≤ 1000) (hk1 : k ≤ 1000) (hh : roleB p k head = false) : Calls Tryd.prog 24 #[.int .i64 p, .int .i64 k, .agg #[.int .i64 3, .int .i64 head, .int .i64 who, .int .i64 a, .int .i64 b, .int .i64 via]] W (RightPost false W) := by
  have hmf : ∀ (fn : Fn) (first cap : Array Value) (w : World), (Instr.makeFunc fn first cap).run Tryd.prog w = .ok (.func fn first cap) w := fun _ _ _ _ => rfl
  have d1 : ¬ p < 0 := by omega
  have d2 : ¬ k < 0 := by omega
  have d3 : ¬ 1000 < p := by omega
  have d4 : ¬ 1000 < k := by omega
  go_enter Tryd.func24, Tryd.ntmps24
  go_wp2_with fail
  refine (role_spec (x3 := W.heap.size) (x4 := W.heap.size + 1) ?c3 ?c4 hp0 hp1 hk0 hk1 _).mono ?_
  case c3 => simp [go_sem, World.cell?_alloc_past]
  case c4 => simp [go_sem, World.cell?_alloc_past]
  rintro e w' ⟨rfl, rfl⟩
  rw [hh]
  go_upto_region 17 with fail
  go_region
  go_wp2_with fail
  go_ret
  refine ⟨by rfl, ?_⟩
  repeat (first | exact Below.refl _ _ | refine Below.alloc ?_ (by simp; omega) _ | refine Below.alloc ?_ (by simp) _ | refine Below.setCell ?_ (by simp; omega) _ | refine Below.setCell ?_ (by simp) _ | refine Below.drew ?_)
theorem right_k3b (W : World) (p k head who a b via : Int) (hp0 : 0 ≤ p) (hk0 : 0 ≤ k) (hp1 : p ≤ 1000) (hk1 : k ≤ 1000) (hh : roleB p k head = true) (hq : decide (who = 0 ∧ a = a ∧ b = 0 ∧ via = via) = false) : Calls Tryd.prog 24 #[.int .i64 p, .int .i64 k, .agg #[.int .i64 3, .int .i64 head, .int .i64 who, .int .i64 a, .int .i64 b, .int .i64 via]] W (RightPost false W) := by
  have hmf : ∀ (fn : Fn) (first cap : Array Value) (w : World), (Instr.makeFunc fn first cap).run Tryd.prog w = .ok (.func fn first cap) w := fun _ _ _ _ => rfl
  have hE : ∀ W, (binOp .eql 29 (.agg #[.int .i64 3, .int .i64 head, .int .i64 who, .int .i64 a, .int .i64 b, .int .i64 via]) (.agg #[.int .i64 3, .int .i64 head, .int .i64 0, .int .i64 a, .int .i64 0, .int .i64 via])).run Tryd.prog W = .ok (.bool false) W := fun W => by rw [rule_eql, hq]
  clear hq
  have d1 : ¬ p < 0 := by omega
  have d2 : ¬ k < 0 := by omega
  have d3 : ¬ 1000 < p := by omega
  have d4 : ¬ 1000 < k := by omega
  go_enter Tryd.func24, Tryd.ntmps24
  go_wp2_with fail
  refine (role_spec (x3 := W.heap.size) (x4 := W.heap.size + 1) ?c3 ?c4 hp0 hp1 hk0 hk1 _).mono ?_
  case c3 => simp [go_sem, World.cell?_alloc_past]
  case c4 => simp [go_sem, World.cell?_alloc_past]
  rintro e w' ⟨rfl, rfl⟩
  rw [hh]
  go_upto_region 17 with fail
  go_region
  go_wp2_with fail
  go_ret
  refine ⟨by rfl, ?_⟩
  repeat (first | exact Below.refl _ _ | refine Below.alloc ?_ (by simp; omega) _ | refine Below.alloc ?_ (by simp) _ | refine Below.setCell ?_ (by simp; omega) _ | refine Below.setCell ?_ (by simp) _ | refine Below.drew ?_)
theorem right_k3c (W : World) (p k head who a b via : Int) (hp0 : 0 ≤ p) (hk0 : 0 ≤ k) (hp1 : p ≤ 1000) (hk1 : k ≤ 1000) (hh : roleB p k head = true) (ha : roleB p k a = false) (hq : decide (who = 0 ∧ a = a ∧ b = 0 ∧ via = via) = true) : Calls Tryd.prog 24 #[.int .i64 p, .int .i64 k, .agg #[.int .i64 3, .int .i64 head, .int .i64 who, .int .i64 a, .int .i64 b, .int .i64 via]] W (RightPost false W) := by
  have hmf : ∀ (fn : Fn) (first cap : Array Value) (w : World), (Instr.makeFunc fn first cap).run Tryd.prog w = .ok (.func fn first cap) w := fun _ _ _ _ => rfl
  have hE : ∀ W, (binOp .eql 29 (.agg #[.int .i64 3, .int .i64 head, .int .i64 who, .int .i64 a, .int .i64 b, .int .i64 via]) (.agg #[.int .i64 3, .int .i64 head, .int .i64 0, .int .i64 a, .int .i64 0, .int .i64 via])).run Tryd.prog W = .ok (.bool true) W := fun W => by rw [rule_eql, hq]
  clear hq
  have d1 : ¬ p < 0 := by omega
  have d2 : ¬ k < 0 := by omega
  have d3 : ¬ 1000 < p := by omega
  have d4 : ¬ 1000 < k := by omega
  go_enter Tryd.func24, Tryd.ntmps24
  go_wp2_with fail
  refine (role_spec (x3 := W.heap.size) (x4 := W.heap.size + 1) ?c3 ?c4 hp0 hp1 hk0 hk1 _).mono ?_
  case c3 => simp [go_sem, World.cell?_alloc_past]
  case c4 => simp [go_sem, World.cell?_alloc_past]
  rintro e w' ⟨rfl, rfl⟩
  rw [hh]
  go_upto_region 17 with fail
  go_region
  go_wp2_with fail
  refine (role_spec (x3 := W.heap.size) (x4 := W.heap.size + 1) ?c3 ?c4 hp0 hp1 hk0 hk1 _).mono ?_
  case c3 => simp [go_sem, World.cell?_alloc_past]
  case c4 => simp [go_sem, World.cell?_alloc_past]
  rintro e w' ⟨rfl, rfl⟩
  rw [ha]
  go_wp2_with fail
  go_ret
  refine ⟨by rfl, ?_⟩
  repeat (first | exact Below.refl _ _ | refine Below.alloc ?_ (by simp; omega) _ | refine Below.alloc ?_ (by simp) _ | refine Below.setCell ?_ (by simp; omega) _ | refine Below.setCell ?_ (by simp) _ | refine Below.drew ?_)
theorem right_k3d (W : World) (p k head who a b via : Int) (hp0 : 0 ≤ p) (hk0 : 0 ≤ k) (hp1 : p ≤ 1000) (hk1 : k ≤ 1000) (hh : roleB p k head = true) (ha : roleB p k a = true) (hw : via < 0) (hq : decide (who = 0 ∧ a = a ∧ b = 0 ∧ via = via) = true) : Calls Tryd.prog 24 #[.int .i64 p, .int .i64 k, .agg #[.int .i64 3, .int .i64 head, .int .i64 who, .int .i64 a, .int .i64 b, .int .i64 via]] W (RightPost false W) := by
  have hmf : ∀ (fn : Fn) (first cap : Array Value) (w : World), (Instr.makeFunc fn first cap).run Tryd.prog w = .ok (.func fn first cap) w := fun _ _ _ _ => rfl
  have hE : ∀ W, (binOp .eql 29 (.agg #[.int .i64 3, .int .i64 head, .int .i64 who, .int .i64 a, .int .i64 b, .int .i64 via]) (.agg #[.int .i64 3, .int .i64 head, .int .i64 0, .int .i64 a, .int .i64 0, .int .i64 via])).run Tryd.prog W = .ok (.bool true) W := fun W => by rw [rule_eql, hq]
  clear hq
  have d1 : ¬ p < 0 := by omega
  have d2 : ¬ k < 0 := by omega
  have d3 : ¬ 1000 < p := by omega
  have d4 : ¬ 1000 < k := by omega
  go_enter Tryd.func24, Tryd.ntmps24
  go_wp2_with fail
  refine (role_spec (x3 := W.heap.size) (x4 := W.heap.size + 1) ?c3 ?c4 hp0 hp1 hk0 hk1 _).mono ?_
  case c3 => simp [go_sem, World.cell?_alloc_past]
  case c4 => simp [go_sem, World.cell?_alloc_past]
  rintro e w' ⟨rfl, rfl⟩
  rw [hh]
  go_upto_region 17 with fail
  go_region
  go_wp2_with fail
  refine (role_spec (x3 := W.heap.size) (x4 := W.heap.size + 1) ?c3 ?c4 hp0 hp1 hk0 hk1 _).mono ?_
  case c3 => simp [go_sem, World.cell?_alloc_past]
  case c4 => simp [go_sem, World.cell?_alloc_past]
  rintro e w' ⟨rfl, rfl⟩
  rw [ha]
  go_wp2_with fail
  go_ret
  refine ⟨by rfl, ?_⟩
  repeat (first | exact Below.refl _ _ | refine Below.alloc ?_ (by simp; omega) _ | refine Below.alloc ?_ (by simp) _ | refine Below.setCell ?_ (by simp; omega) _ | refine Below.setCell ?_ (by simp) _ | refine Below.drew ?_)
theorem right_k3e (W : World) (p k head who a b via : Int) (hp0 : 0 ≤ p) (hk0 : 0 ≤ k) (hp1 : p ≤ 1000) (hk1 : k ≤ 1000) (hh : roleB p k head = true) (ha : roleB p k a = true) (hw : 0 ≤ via) (hq : decide (who = 0 ∧ a = a ∧ b = 0 ∧ via = via) = true) : Calls Tryd.prog 24 #[.int .i64 p, .int .i64 k, .agg #[.int .i64 3, .int .i64 head, .int .i64 who, .int .i64 a, .int .i64 b, .int .i64 via]] W (RightPost (decide (via < k)) W) := by
  have hmf : ∀ (fn : Fn) (first cap : Array Value) (w : World), (Instr.makeFunc fn first cap).run Tryd.prog w = .ok (.func fn first cap) w := fun _ _ _ _ => rfl
  have hE : ∀ W, (binOp .eql 29 (.agg #[.int .i64 3, .int .i64 head, .int .i64 who, .int .i64 a, .int .i64 b, .int .i64 via]) (.agg #[.int .i64 3, .int .i64 head, .int .i64 0, .int .i64 a, .int .i64 0, .int .i64 via])).run Tryd.prog W = .ok (.bool true) W := fun W => by rw [rule_eql, hq]
  clear hq
  have d1 : ¬ p < 0 := by omega
  have d2 : ¬ k < 0 := by omega
  have d3 : ¬ 1000 < p := by omega
  have d4 : ¬ 1000 < k := by omega
  go_enter Tryd.func24, Tryd.ntmps24
  go_wp2_with fail
  refine (role_spec (x3 := W.heap.size) (x4 := W.heap.size + 1) ?c3 ?c4 hp0 hp1 hk0 hk1 _).mono ?_
  case c3 => simp [go_sem, World.cell?_alloc_past]
  case c4 => simp [go_sem, World.cell?_alloc_past]
  rintro e w' ⟨rfl, rfl⟩
  rw [hh]
  go_upto_region 17 with fail
  go_region
  go_wp2_with fail
  refine (role_spec (x3 := W.heap.size) (x4 := W.heap.size + 1) ?c3 ?c4 hp0 hp1 hk0 hk1 _).mono ?_
  case c3 => simp [go_sem, World.cell?_alloc_past]
  case c4 => simp [go_sem, World.cell?_alloc_past]
  rintro e w' ⟨rfl, rfl⟩
  rw [ha]
  go_wp2_with fail
  go_ret
  refine ⟨by rfl, ?_⟩
  repeat (first | exact Below.refl _ _ | refine Below.alloc ?_ (by simp; omega) _ | refine Below.alloc ?_ (by simp) _ | refine Below.setCell ?_ (by simp; omega) _ | refine Below.setCell ?_ (by simp) _ | refine Below.drew ?_)
end Go.Proofs.YtaabmkebbnkonaaDoor
