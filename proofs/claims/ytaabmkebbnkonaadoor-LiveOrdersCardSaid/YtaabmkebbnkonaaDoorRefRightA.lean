/-
  The walk of the document's Right, leaf by leaf.
-/
import Derived.Test.YtaabmkebbnkonaaDoorSemRightAll
set_option linter.unusedVariables false
set_option linter.unusedSimpArgs false
set_option linter.unnecessarySimpa false
namespace Go.Proofs.YtaabmkebbnkonaaDoor
open Go.ChangeShapes Go.WideShapes Go.ChangeAt Go.RowKit Go.Deep SetPlain
set_option maxRecDepth 100000
theorem rr_o0 (W : World) (p k n kind head who a b via : Int) (hn : IntKind.i64.wrap (p * k) = n) (h0 : p < 0) : Calls Tryd.prog 15 #[.int .i64 p, .int .i64 k, .agg #[.int .i64 kind, .int .i64 head, .int .i64 who, .int .i64 a, .int .i64 b, .int .i64 via]] W (RightPost false W) := by
  go_enter Tryd.func15, Tryd.ntmps15
  go_wp2_with fail
  go_ret
  refine ⟨by rfl, ?_⟩
  repeat (first | exact Below.refl _ _ | refine Below.alloc ?_ (by simp; omega) _ | refine Below.alloc ?_ (by simp) _)
theorem rr_o1 (W : World) (p k n kind head who a b via : Int) (hn : IntKind.i64.wrap (p * k) = n) (h0 : (0 : Int) ≤ p) (h1 : k < 0) : Calls Tryd.prog 15 #[.int .i64 p, .int .i64 k, .agg #[.int .i64 kind, .int .i64 head, .int .i64 who, .int .i64 a, .int .i64 b, .int .i64 via]] W (RightPost false W) := by
  go_enter Tryd.func15, Tryd.ntmps15
  go_wp2_with fail
  go_ret
  refine ⟨by rfl, ?_⟩
  repeat (first | exact Below.refl _ _ | refine Below.alloc ?_ (by simp; omega) _ | refine Below.alloc ?_ (by simp) _)
theorem rr_o2 (W : World) (p k n kind head who a b via : Int) (hn : IntKind.i64.wrap (p * k) = n) (h0 : (0 : Int) ≤ p) (h1 : (0 : Int) ≤ k) (h2 : 1000 < p) : Calls Tryd.prog 15 #[.int .i64 p, .int .i64 k, .agg #[.int .i64 kind, .int .i64 head, .int .i64 who, .int .i64 a, .int .i64 b, .int .i64 via]] W (RightPost false W) := by
  go_enter Tryd.func15, Tryd.ntmps15
  go_wp2_with fail
  go_ret
  refine ⟨by rfl, ?_⟩
  repeat (first | exact Below.refl _ _ | refine Below.alloc ?_ (by simp; omega) _ | refine Below.alloc ?_ (by simp) _)
theorem rr_o3 (W : World) (p k n kind head who a b via : Int) (hn : IntKind.i64.wrap (p * k) = n) (h0 : (0 : Int) ≤ p) (h1 : (0 : Int) ≤ k) (h2 : p ≤ 1000) (h3 : 1000 < k) : Calls Tryd.prog 15 #[.int .i64 p, .int .i64 k, .agg #[.int .i64 kind, .int .i64 head, .int .i64 who, .int .i64 a, .int .i64 b, .int .i64 via]] W (RightPost false W) := by
  go_enter Tryd.func15, Tryd.ntmps15
  go_wp2_with fail
  go_ret
  refine ⟨by rfl, ?_⟩
  repeat (first | exact Below.refl _ _ | refine Below.alloc ?_ (by simp; omega) _ | refine Below.alloc ?_ (by simp) _)
theorem rr_o4 (W : World) (p k n kind head who a b via : Int) (hn : IntKind.i64.wrap (p * k) = n) (h0 : (0 : Int) ≤ p) (h1 : (0 : Int) ≤ k) (h2 : p ≤ 1000) (h3 : k ≤ 1000) (h4 : kind < 1) : Calls Tryd.prog 15 #[.int .i64 p, .int .i64 k, .agg #[.int .i64 kind, .int .i64 head, .int .i64 who, .int .i64 a, .int .i64 b, .int .i64 via]] W (RightPost false W) := by
  go_enter Tryd.func15, Tryd.ntmps15
  go_wp2_with fail
  go_ret
  refine ⟨by rfl, ?_⟩
  repeat (first | exact Below.refl _ _ | refine Below.alloc ?_ (by simp; omega) _ | refine Below.alloc ?_ (by simp) _)
theorem rr_o5 (W : World) (p k n kind head who a b via : Int) (hn : IntKind.i64.wrap (p * k) = n) (h0 : (0 : Int) ≤ p) (h1 : (0 : Int) ≤ k) (h2 : p ≤ 1000) (h3 : k ≤ 1000) (h4 : (1 : Int) ≤ kind) (h5 : 4 < kind) : Calls Tryd.prog 15 #[.int .i64 p, .int .i64 k, .agg #[.int .i64 kind, .int .i64 head, .int .i64 who, .int .i64 a, .int .i64 b, .int .i64 via]] W (RightPost false W) := by
  go_enter Tryd.func15, Tryd.ntmps15
  go_wp2_with fail
  go_ret
  refine ⟨by rfl, ?_⟩
  repeat (first | exact Below.refl _ _ | refine Below.alloc ?_ (by simp; omega) _ | refine Below.alloc ?_ (by simp) _)
theorem rr_h0 (W : World) (p k n kind head who a b via : Int) (hn : IntKind.i64.wrap (p * k) = n) (h0 : (0 : Int) ≤ p) (h1 : (0 : Int) ≤ k) (h2 : p ≤ 1000) (h3 : k ≤ 1000) (h4 : (1 : Int) ≤ kind) (h5 : kind ≤ 4) (h6 : head < 0) : Calls Tryd.prog 15 #[.int .i64 p, .int .i64 k, .agg #[.int .i64 kind, .int .i64 head, .int .i64 who, .int .i64 a, .int .i64 b, .int .i64 via]] W (RightPost false W) := by
  go_enter Tryd.func15, Tryd.ntmps15
  go_wp2_with fail
  go_ret
  refine ⟨by rfl, ?_⟩
  repeat (first | exact Below.refl _ _ | refine Below.alloc ?_ (by simp; omega) _ | refine Below.alloc ?_ (by simp) _)
theorem rr_h1 (W : World) (p k n kind head who a b via : Int) (hn : IntKind.i64.wrap (p * k) = n) (h0 : (0 : Int) ≤ p) (h1 : (0 : Int) ≤ k) (h2 : p ≤ 1000) (h3 : k ≤ 1000) (h4 : (1 : Int) ≤ kind) (h5 : kind ≤ 4) (h6 : (0 : Int) ≤ head) (h7 : n ≤ head) : Calls Tryd.prog 15 #[.int .i64 p, .int .i64 k, .agg #[.int .i64 kind, .int .i64 head, .int .i64 who, .int .i64 a, .int .i64 b, .int .i64 via]] W (RightPost false W) := by
  go_enter Tryd.func15, Tryd.ntmps15
  go_wp2_with fail
  go_ret
  refine ⟨by rfl, ?_⟩
  repeat (first | exact Below.refl _ _ | refine Below.alloc ?_ (by simp; omega) _ | refine Below.alloc ?_ (by simp) _)
theorem rr_k1a (W : World) (p k n head who a b via : Int) (hn : IntKind.i64.wrap (p * k) = n) (h0 : (0 : Int) ≤ p) (h1 : (0 : Int) ≤ k) (h2 : p ≤ 1000) (h3 : k ≤ 1000) (h4 : (0 : Int) ≤ head) (h5 : head < n) (h6 : who < 0) : Calls Tryd.prog 15 #[.int .i64 p, .int .i64 k, .agg #[.int .i64 1, .int .i64 head, .int .i64 who, .int .i64 a, .int .i64 b, .int .i64 via]] W (RightPost false W) := by
  go_enter Tryd.func15, Tryd.ntmps15
  go_wp2_with fail
  go_ret
  refine ⟨by rfl, ?_⟩
  repeat (first | exact Below.refl _ _ | refine Below.alloc ?_ (by simp; omega) _ | refine Below.alloc ?_ (by simp) _)
theorem rr_k1b (W : World) (p k n head who a b via : Int) (hn : IntKind.i64.wrap (p * k) = n) (h0 : (0 : Int) ≤ p) (h1 : (0 : Int) ≤ k) (h2 : p ≤ 1000) (h3 : k ≤ 1000) (h4 : (0 : Int) ≤ head) (h5 : head < n) (h6 : (0 : Int) ≤ who) (h7 : p ≤ who) : Calls Tryd.prog 15 #[.int .i64 p, .int .i64 k, .agg #[.int .i64 1, .int .i64 head, .int .i64 who, .int .i64 a, .int .i64 b, .int .i64 via]] W (RightPost false W) := by
  go_enter Tryd.func15, Tryd.ntmps15
  go_wp2_with fail
  go_ret
  refine ⟨by rfl, ?_⟩
  repeat (first | exact Below.refl _ _ | refine Below.alloc ?_ (by simp; omega) _ | refine Below.alloc ?_ (by simp) _)
theorem rr_k1c (W : World) (p k n head who a b via : Int) (hn : IntKind.i64.wrap (p * k) = n) (h0 : (0 : Int) ≤ p) (h1 : (0 : Int) ≤ k) (h2 : p ≤ 1000) (h3 : k ≤ 1000) (h4 : (0 : Int) ≤ head) (h5 : head < n) (h6 : (0 : Int) ≤ who) (h7 : who < p) (h8 : ((a : Int) == 0) = false) : Calls Tryd.prog 15 #[.int .i64 p, .int .i64 k, .agg #[.int .i64 1, .int .i64 head, .int .i64 who, .int .i64 a, .int .i64 b, .int .i64 via]] W (RightPost false W) := by
  go_enter Tryd.func15, Tryd.ntmps15
  go_wp2_with fail
  go_ret
  refine ⟨by rfl, ?_⟩
  repeat (first | exact Below.refl _ _ | refine Below.alloc ?_ (by simp; omega) _ | refine Below.alloc ?_ (by simp) _)
theorem rr_k1d (W : World) (p k n head who b via : Int) (hn : IntKind.i64.wrap (p * k) = n) (h0 : (0 : Int) ≤ p) (h1 : (0 : Int) ≤ k) (h2 : p ≤ 1000) (h3 : k ≤ 1000) (h4 : (0 : Int) ≤ head) (h5 : head < n) (h6 : (0 : Int) ≤ who) (h7 : who < p) (h8 : ((b : Int) == 0) = false) : Calls Tryd.prog 15 #[.int .i64 p, .int .i64 k, .agg #[.int .i64 1, .int .i64 head, .int .i64 who, .int .i64 0, .int .i64 b, .int .i64 via]] W (RightPost false W) := by
  go_enter Tryd.func15, Tryd.ntmps15
  go_wp2_with fail
  go_ret
  refine ⟨by rfl, ?_⟩
  repeat (first | exact Below.refl _ _ | refine Below.alloc ?_ (by simp; omega) _ | refine Below.alloc ?_ (by simp) _)
theorem rr_k1e (W : World) (p k n head who via : Int) (hn : IntKind.i64.wrap (p * k) = n) (h0 : (0 : Int) ≤ p) (h1 : (0 : Int) ≤ k) (h2 : p ≤ 1000) (h3 : k ≤ 1000) (h4 : (0 : Int) ≤ head) (h5 : head < n) (h6 : (0 : Int) ≤ who) (h7 : who < p) (h8 : ((via : Int) == 0) = false) : Calls Tryd.prog 15 #[.int .i64 p, .int .i64 k, .agg #[.int .i64 1, .int .i64 head, .int .i64 who, .int .i64 0, .int .i64 0, .int .i64 via]] W (RightPost false W) := by
  go_enter Tryd.func15, Tryd.ntmps15
  go_wp2_with fail
  go_ret
  refine ⟨by rfl, ?_⟩
  repeat (first | exact Below.refl _ _ | refine Below.alloc ?_ (by simp; omega) _ | refine Below.alloc ?_ (by simp) _)
theorem rr_k1f (W : World) (p k n head who : Int) (hn : IntKind.i64.wrap (p * k) = n) (h0 : (0 : Int) ≤ p) (h1 : (0 : Int) ≤ k) (h2 : p ≤ 1000) (h3 : k ≤ 1000) (h4 : (0 : Int) ≤ head) (h5 : head < n) (h6 : (0 : Int) ≤ who) (h7 : who < p) : Calls Tryd.prog 15 #[.int .i64 p, .int .i64 k, .agg #[.int .i64 1, .int .i64 head, .int .i64 who, .int .i64 0, .int .i64 0, .int .i64 0]] W (RightPost true W) := by
  go_enter Tryd.func15, Tryd.ntmps15
  go_wp2_with fail
  go_ret
  refine ⟨by rfl, ?_⟩
  repeat (first | exact Below.refl _ _ | refine Below.alloc ?_ (by simp; omega) _ | refine Below.alloc ?_ (by simp) _)
end Go.Proofs.YtaabmkebbnkonaaDoor
