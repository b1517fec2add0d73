/-
  The document's proofs: does a step stand on a fact?
-/
import Derived.Test.YtoiojkkbhbbjfaaProofRef
set_option linter.unusedVariables false
set_option linter.unusedSimpArgs false
set_option linter.unnecessarySimpa false
namespace Go.Proofs.Ytoiojkkbhbbjfaa
open Go.ChangeShapes Go.WideShapes Go.ChangeAt Go.RowKit Go.Deep SetPlain
set_option maxRecDepth 100000
set_option maxHeartbeats 3200000
theorem needed9_k1 {W : World} {K : Nat} {ao : Option Addr} {n cap : Nat} {rs : List Rl} (hR : RuleRow W ao rs) (hrs : rs.length = n) (hcap : n ≤ cap)
    (i : Nat) (c m : Int) (head rwho a b via : Int) (hr : rs[i]? = some ⟨1, head, rwho, a, b, via⟩) (role who : Int)  :
    Calls Try.prog 10 #[.int .i64 K, .slice ao n cap, .agg #[.int .i64 i, .int .i64 head, .int .i64 c, .int .i64 m], .int .i64 role, .int .i64 who] W (fun e W' => e = .returned (.bool (false)) ∧ Below W.heap.size W W') := by
  have hin : i < n := by
    rcases Nat.lt_or_ge i rs.length with h | h
    · omega
    · rw [List.getElem?_eq_none h] at hr; cases hr
  obtain ⟨bb, off, rfl, hbb, hcc⟩ := hR (by omega)
  obtain ⟨c0, c1, c2, c3, c4, c5⟩ := hcc i _ hr
  simp only [] at c0 c1 c2 c3 c4 c5
  have HB : Hid (∀ o1 o2, Below W.heap.size W ((W.alloc o1).alloc o2)) := fun o1 o2 => by
    have hk : Keeps (fun _ => False) W ((W.alloc o1).alloc o2) := ((Keeps.refl _ _).alloc _).alloc _
    exact hk.below (Nat.le_refl _) (fun _ _ x => x)
  have hiI : (i : Int) < (n : Int) := by omega
  have lb1 : bb < W.heap.size + 1 := by omega
  clear hR hcc hr

  generalize hres : (false) = res
  have HRES := Lib.hid hres
  clear hres
  go_enter Try.func10, Try.ntmps10
  go_wp2_with fail
  all_goals (go_ret; refine ⟨?_, HB.out _ _⟩; rw [← HRES.out]; first | rfl | ((try simp_all); done) | (simp_all; rfl) | (change (decide (_ = _) || decide (_ = _)) = _; simp_all; done) | (simp_all; change (decide (_ = _) || decide (_ = _)) = _; simp_all; done))
theorem needed9_k2 {W : World} {K : Nat} {ao : Option Addr} {n cap : Nat} {rs : List Rl} (hR : RuleRow W ao rs) (hrs : rs.length = n) (hcap : n ≤ cap)
    (i : Nat) (c m : Int) (head rwho a b via : Int) (hr : rs[i]? = some ⟨2, head, rwho, a, b, via⟩) (role who : Int)  :
    Calls Try.prog 10 #[.int .i64 K, .slice ao n cap, .agg #[.int .i64 i, .int .i64 head, .int .i64 c, .int .i64 m], .int .i64 role, .int .i64 who] W (fun e W' => e = .returned (.bool (decide (a = role) && decide (c = who))) ∧ Below W.heap.size W W') := by
  have hin : i < n := by
    rcases Nat.lt_or_ge i rs.length with h | h
    · omega
    · rw [List.getElem?_eq_none h] at hr; cases hr
  obtain ⟨bb, off, rfl, hbb, hcc⟩ := hR (by omega)
  obtain ⟨c0, c1, c2, c3, c4, c5⟩ := hcc i _ hr
  simp only [] at c0 c1 c2 c3 c4 c5
  have HB : Hid (∀ o1 o2, Below W.heap.size W ((W.alloc o1).alloc o2)) := fun o1 o2 => by
    have hk : Keeps (fun _ => False) W ((W.alloc o1).alloc o2) := ((Keeps.refl _ _).alloc _).alloc _
    exact hk.below (Nat.le_refl _) (fun _ _ x => x)
  have hiI : (i : Int) < (n : Int) := by omega
  have lb1 : bb < W.heap.size + 1 := by omega
  clear hR hcc hr

  generalize hres : (decide (a = role) && decide (c = who)) = res
  have HRES := Lib.hid hres
  clear hres
  go_enter Try.func10, Try.ntmps10
  go_wp2_with fail
  all_goals (go_ret; refine ⟨?_, HB.out _ _⟩; rw [← HRES.out]; first | rfl | ((try simp_all); done) | (simp_all; rfl) | (change (decide (_ = _) || decide (_ = _)) = _; simp_all; done) | (simp_all; change (decide (_ = _) || decide (_ = _)) = _; simp_all; done))
theorem needed9_k3 {W : World} {K : Nat} {ao : Option Addr} {n cap : Nat} {rs : List Rl} (hR : RuleRow W ao rs) (hrs : rs.length = n) (hcap : n ≤ cap)
    (i : Nat) (c m : Int) (head rwho a b via : Int) (hr : rs[i]? = some ⟨3, head, rwho, a, b, via⟩) (role who : Int) (x1 x2 : Int) (e1 : IntKind.i64.wrap (m * K) = x1) (e2 : IntKind.i64.wrap (x1 + via) = x2) :
    Calls Try.prog 10 #[.int .i64 K, .slice ao n cap, .agg #[.int .i64 i, .int .i64 head, .int .i64 c, .int .i64 m], .int .i64 role, .int .i64 who] W (fun e W' => e = .returned (.bool ((decide (a = role) && decide (m = who)) || (decide (x2 = role) && decide (c = who)))) ∧ Below W.heap.size W W') := by
  have hin : i < n := by
    rcases Nat.lt_or_ge i rs.length with h | h
    · omega
    · rw [List.getElem?_eq_none h] at hr; cases hr
  obtain ⟨bb, off, rfl, hbb, hcc⟩ := hR (by omega)
  obtain ⟨c0, c1, c2, c3, c4, c5⟩ := hcc i _ hr
  simp only [] at c0 c1 c2 c3 c4 c5
  have HB : Hid (∀ o1 o2, Below W.heap.size W ((W.alloc o1).alloc o2)) := fun o1 o2 => by
    have hk : Keeps (fun _ => False) W ((W.alloc o1).alloc o2) := ((Keeps.refl _ _).alloc _).alloc _
    exact hk.below (Nat.le_refl _) (fun _ _ x => x)
  have hiI : (i : Int) < (n : Int) := by omega
  have lb1 : bb < W.heap.size + 1 := by omega
  clear hR hcc hr

  generalize hres : ((decide (a = role) && decide (m = who)) || (decide (x2 = role) && decide (c = who))) = res
  have HRES := Lib.hid hres
  clear hres
  go_enter Try.func10, Try.ntmps10
  go_wp2_with fail
  all_goals (go_ret; refine ⟨?_, HB.out _ _⟩; rw [← HRES.out]; first | rfl | ((try simp_all); done) | (simp_all; rfl) | (change (decide (_ = _) || decide (_ = _)) = _; simp_all; done) | (simp_all; change (decide (_ = _) || decide (_ = _)) = _; simp_all; done))
theorem needed9_k4 {W : World} {K : Nat} {ao : Option Addr} {n cap : Nat} {rs : List Rl} (hR : RuleRow W ao rs) (hrs : rs.length = n) (hcap : n ≤ cap)
    (i : Nat) (c m : Int) (head rwho a b via : Int) (hr : rs[i]? = some ⟨4, head, rwho, a, b, via⟩) (role who : Int)  :
    Calls Try.prog 10 #[.int .i64 K, .slice ao n cap, .agg #[.int .i64 i, .int .i64 head, .int .i64 c, .int .i64 m], .int .i64 role, .int .i64 who] W (fun e W' => e = .returned (.bool (decide (c = who) && (decide (a = role) || decide (b = role)))) ∧ Below W.heap.size W W') := by
  have hin : i < n := by
    rcases Nat.lt_or_ge i rs.length with h | h
    · omega
    · rw [List.getElem?_eq_none h] at hr; cases hr
  obtain ⟨bb, off, rfl, hbb, hcc⟩ := hR (by omega)
  obtain ⟨c0, c1, c2, c3, c4, c5⟩ := hcc i _ hr
  simp only [] at c0 c1 c2 c3 c4 c5
  have HB : Hid (∀ o1 o2, Below W.heap.size W ((W.alloc o1).alloc o2)) := fun o1 o2 => by
    have hk : Keeps (fun _ => False) W ((W.alloc o1).alloc o2) := ((Keeps.refl _ _).alloc _).alloc _
    exact hk.below (Nat.le_refl _) (fun _ _ x => x)
  have hiI : (i : Int) < (n : Int) := by omega
  have lb1 : bb < W.heap.size + 1 := by omega
  clear hR hcc hr

  generalize hres : (decide (c = who) && (decide (a = role) || decide (b = role))) = res
  have HRES := Lib.hid hres
  clear hres
  go_enter Try.func10, Try.ntmps10
  go_wp2_with fail
  all_goals (go_ret; refine ⟨?_, HB.out _ _⟩; rw [← HRES.out]; first | rfl | ((try simp_all); done) | (simp_all; rfl) | (change (decide (_ = _) || decide (_ = _)) = _; simp_all; done) | (simp_all; change (decide (_ = _) || decide (_ = _)) = _; simp_all; done))
end Go.Proofs.Ytoiojkkbhbbjfaa
