/-
  The walk of the document's Right, leaf by leaf.
-/
import Derived.Test.YtaabmkebbnkonaaDoorSemRightAll
set_option linter.unusedVariables false
set_option linter.unusedSimpArgs false
set_option linter.unnecessarySimpa false
namespace Go.Proofs.YtaabmkebbnkonaaDoor
open Go.ChangeShapes Go.WideShapes Go.ChangeAt Go.RowKit Go.Deep SetPlain
set_option maxRecDepth 100000
theorem rr_w0 (W : World) (p k n kind head who a b via : Int) (hn : IntKind.i64.wrap (p * k) = n) (h0 : (0 : Int) ≤ p) (h1 : (0 : Int) ≤ k) (h2 : p ≤ 1000) (h3 : k ≤ 1000) (h4 : (0 : Int) ≤ head) (h5 : head < n) (h6 : (1 : Int) ≤ kind) (h7 : kind ≤ 4) (h8 : ((kind : Int) == 1) = false) (h9 : ((who : Int) != 0) = true) : Calls Tryd.prog 15 #[.int .i64 p, .int .i64 k, .agg #[.int .i64 kind, .int .i64 head, .int .i64 who, .int .i64 a, .int .i64 b, .int .i64 via]] W (RightPost false W) := by
  go_enter Tryd.func15, Tryd.ntmps15
  go_wp2_with fail
  go_ret
  refine ⟨by rfl, ?_⟩
  repeat (first | exact Below.refl _ _ | refine Below.alloc ?_ (by simp; omega) _ | refine Below.alloc ?_ (by simp) _)
theorem rr_w1 (W : World) (p k n kind head a b via : Int) (hn : IntKind.i64.wrap (p * k) = n) (h0 : (0 : Int) ≤ p) (h1 : (0 : Int) ≤ k) (h2 : p ≤ 1000) (h3 : k ≤ 1000) (h4 : (0 : Int) ≤ head) (h5 : head < n) (h6 : (1 : Int) ≤ kind) (h7 : kind ≤ 4) (h8 : ((kind : Int) == 1) = false) (h9 : a < 0) : Calls Tryd.prog 15 #[.int .i64 p, .int .i64 k, .agg #[.int .i64 kind, .int .i64 head, .int .i64 0, .int .i64 a, .int .i64 b, .int .i64 via]] W (RightPost false W) := by
  go_enter Tryd.func15, Tryd.ntmps15
  go_wp2_with fail
  go_ret
  refine ⟨by rfl, ?_⟩
  repeat (first | exact Below.refl _ _ | refine Below.alloc ?_ (by simp; omega) _ | refine Below.alloc ?_ (by simp) _)
theorem rr_w2 (W : World) (p k n kind head a b via : Int) (hn : IntKind.i64.wrap (p * k) = n) (h0 : (0 : Int) ≤ p) (h1 : (0 : Int) ≤ k) (h2 : p ≤ 1000) (h3 : k ≤ 1000) (h4 : (0 : Int) ≤ head) (h5 : head < n) (h6 : (1 : Int) ≤ kind) (h7 : kind ≤ 4) (h8 : ((kind : Int) == 1) = false) (h9 : (0 : Int) ≤ a) (h10 : n ≤ a) : Calls Tryd.prog 15 #[.int .i64 p, .int .i64 k, .agg #[.int .i64 kind, .int .i64 head, .int .i64 0, .int .i64 a, .int .i64 b, .int .i64 via]] W (RightPost false W) := by
  go_enter Tryd.func15, Tryd.ntmps15
  go_wp2_with fail
  go_ret
  refine ⟨by rfl, ?_⟩
  repeat (first | exact Below.refl _ _ | refine Below.alloc ?_ (by simp; omega) _ | refine Below.alloc ?_ (by simp) _)
theorem rr_k2a (W : World) (p k n head a b via : Int) (hn : IntKind.i64.wrap (p * k) = n) (h0 : (0 : Int) ≤ p) (h1 : (0 : Int) ≤ k) (h2 : p ≤ 1000) (h3 : k ≤ 1000) (h4 : (0 : Int) ≤ head) (h5 : head < n) (h6 : (0 : Int) ≤ a) (h7 : a < n) (h8 : ((b : Int) == 0) = false) : Calls Tryd.prog 15 #[.int .i64 p, .int .i64 k, .agg #[.int .i64 2, .int .i64 head, .int .i64 0, .int .i64 a, .int .i64 b, .int .i64 via]] W (RightPost false W) := by
  go_enter Tryd.func15, Tryd.ntmps15
  go_wp2_with fail
  go_ret
  refine ⟨by rfl, ?_⟩
  repeat (first | exact Below.refl _ _ | refine Below.alloc ?_ (by simp; omega) _ | refine Below.alloc ?_ (by simp) _)
theorem rr_k2b (W : World) (p k n head a via : Int) (hn : IntKind.i64.wrap (p * k) = n) (h0 : (0 : Int) ≤ p) (h1 : (0 : Int) ≤ k) (h2 : p ≤ 1000) (h3 : k ≤ 1000) (h4 : (0 : Int) ≤ head) (h5 : head < n) (h6 : (0 : Int) ≤ a) (h7 : a < n) (h8 : ((via : Int) == 0) = false) : Calls Tryd.prog 15 #[.int .i64 p, .int .i64 k, .agg #[.int .i64 2, .int .i64 head, .int .i64 0, .int .i64 a, .int .i64 0, .int .i64 via]] W (RightPost false W) := by
  go_enter Tryd.func15, Tryd.ntmps15
  go_wp2_with fail
  go_ret
  refine ⟨by rfl, ?_⟩
  repeat (first | exact Below.refl _ _ | refine Below.alloc ?_ (by simp; omega) _ | refine Below.alloc ?_ (by simp) _)
theorem rr_k2c (W : World) (p k n head a : Int) (hn : IntKind.i64.wrap (p * k) = n) (h0 : (0 : Int) ≤ p) (h1 : (0 : Int) ≤ k) (h2 : p ≤ 1000) (h3 : k ≤ 1000) (h4 : (0 : Int) ≤ head) (h5 : head < n) (h6 : (0 : Int) ≤ a) (h7 : a < n) : Calls Tryd.prog 15 #[.int .i64 p, .int .i64 k, .agg #[.int .i64 2, .int .i64 head, .int .i64 0, .int .i64 a, .int .i64 0, .int .i64 0]] W (RightPost true W) := by
  go_enter Tryd.func15, Tryd.ntmps15
  go_wp2_with fail
  go_ret
  refine ⟨by rfl, ?_⟩
  repeat (first | exact Below.refl _ _ | refine Below.alloc ?_ (by simp; omega) _ | refine Below.alloc ?_ (by simp) _)
theorem rr_k3a (W : World) (p k n head a b via : Int) (hn : IntKind.i64.wrap (p * k) = n) (h0 : (0 : Int) ≤ p) (h1 : (0 : Int) ≤ k) (h2 : p ≤ 1000) (h3 : k ≤ 1000) (h4 : (0 : Int) ≤ head) (h5 : head < n) (h6 : (0 : Int) ≤ a) (h7 : a < n) (h8 : ((b : Int) == 0) = false) : Calls Tryd.prog 15 #[.int .i64 p, .int .i64 k, .agg #[.int .i64 3, .int .i64 head, .int .i64 0, .int .i64 a, .int .i64 b, .int .i64 via]] W (RightPost false W) := by
  go_enter Tryd.func15, Tryd.ntmps15
  go_wp2_with fail
  go_ret
  refine ⟨by rfl, ?_⟩
  repeat (first | exact Below.refl _ _ | refine Below.alloc ?_ (by simp; omega) _ | refine Below.alloc ?_ (by simp) _)
theorem rr_k3b (W : World) (p k n head a via : Int) (hn : IntKind.i64.wrap (p * k) = n) (h0 : (0 : Int) ≤ p) (h1 : (0 : Int) ≤ k) (h2 : p ≤ 1000) (h3 : k ≤ 1000) (h4 : (0 : Int) ≤ head) (h5 : head < n) (h6 : (0 : Int) ≤ a) (h7 : a < n) (h8 : via < 0) : Calls Tryd.prog 15 #[.int .i64 p, .int .i64 k, .agg #[.int .i64 3, .int .i64 head, .int .i64 0, .int .i64 a, .int .i64 0, .int .i64 via]] W (RightPost false W) := by
  go_enter Tryd.func15, Tryd.ntmps15
  go_wp2_with fail
  go_ret
  refine ⟨by rfl, ?_⟩
  repeat (first | exact Below.refl _ _ | refine Below.alloc ?_ (by simp; omega) _ | refine Below.alloc ?_ (by simp) _)
theorem rr_k3c (W : World) (p k n head a via : Int) (hn : IntKind.i64.wrap (p * k) = n) (h0 : (0 : Int) ≤ p) (h1 : (0 : Int) ≤ k) (h2 : p ≤ 1000) (h3 : k ≤ 1000) (h4 : (0 : Int) ≤ head) (h5 : head < n) (h6 : (0 : Int) ≤ a) (h7 : a < n) (h8 : (0 : Int) ≤ via) : Calls Tryd.prog 15 #[.int .i64 p, .int .i64 k, .agg #[.int .i64 3, .int .i64 head, .int .i64 0, .int .i64 a, .int .i64 0, .int .i64 via]] W (RightPost (decide (via < k)) W) := by
  go_enter Tryd.func15, Tryd.ntmps15
  go_wp2_with fail
  go_ret
  refine ⟨by rfl, ?_⟩
  repeat (first | exact Below.refl _ _ | refine Below.alloc ?_ (by simp; omega) _ | refine Below.alloc ?_ (by simp) _)
theorem rr_k4a (W : World) (p k n head a b via : Int) (hn : IntKind.i64.wrap (p * k) = n) (h0 : (0 : Int) ≤ p) (h1 : (0 : Int) ≤ k) (h2 : p ≤ 1000) (h3 : k ≤ 1000) (h4 : (0 : Int) ≤ head) (h5 : head < n) (h6 : (0 : Int) ≤ a) (h7 : a < n) (h8 : ((via : Int) == 0) = false) : Calls Tryd.prog 15 #[.int .i64 p, .int .i64 k, .agg #[.int .i64 4, .int .i64 head, .int .i64 0, .int .i64 a, .int .i64 b, .int .i64 via]] W (RightPost false W) := by
  go_enter Tryd.func15, Tryd.ntmps15
  go_wp2_with fail
  go_ret
  refine ⟨by rfl, ?_⟩
  repeat (first | exact Below.refl _ _ | refine Below.alloc ?_ (by simp; omega) _ | refine Below.alloc ?_ (by simp) _)
theorem rr_k4b (W : World) (p k n head a b : Int) (hn : IntKind.i64.wrap (p * k) = n) (h0 : (0 : Int) ≤ p) (h1 : (0 : Int) ≤ k) (h2 : p ≤ 1000) (h3 : k ≤ 1000) (h4 : (0 : Int) ≤ head) (h5 : head < n) (h6 : (0 : Int) ≤ a) (h7 : a < n) (h8 : b < 0) : Calls Tryd.prog 15 #[.int .i64 p, .int .i64 k, .agg #[.int .i64 4, .int .i64 head, .int .i64 0, .int .i64 a, .int .i64 b, .int .i64 0]] W (RightPost false W) := by
  go_enter Tryd.func15, Tryd.ntmps15
  go_wp2_with fail
  go_ret
  refine ⟨by rfl, ?_⟩
  repeat (first | exact Below.refl _ _ | refine Below.alloc ?_ (by simp; omega) _ | refine Below.alloc ?_ (by simp) _)
theorem rr_k4c (W : World) (p k n head a b : Int) (hn : IntKind.i64.wrap (p * k) = n) (h0 : (0 : Int) ≤ p) (h1 : (0 : Int) ≤ k) (h2 : p ≤ 1000) (h3 : k ≤ 1000) (h4 : (0 : Int) ≤ head) (h5 : head < n) (h6 : (0 : Int) ≤ a) (h7 : a < n) (h8 : (0 : Int) ≤ b) : Calls Tryd.prog 15 #[.int .i64 p, .int .i64 k, .agg #[.int .i64 4, .int .i64 head, .int .i64 0, .int .i64 a, .int .i64 b, .int .i64 0]] W (RightPost (decide (b < n)) W) := by
  go_enter Tryd.func15, Tryd.ntmps15
  go_wp2_with fail
  go_ret
  refine ⟨by rfl, ?_⟩
  repeat (first | exact Below.refl _ _ | refine Below.alloc ?_ (by simp; omega) _ | refine Below.alloc ?_ (by simp) _)
end Go.Proofs.YtaabmkebbnkonaaDoor
