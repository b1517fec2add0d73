/-
  The walk of the document's once.
-/
import Derived.Test.YtaabmkebbnkonaaDoorRefMem
import Derived.Deep.QuietTactic
import Derived.BigQuiet
set_option linter.unusedVariables false
set_option linter.unusedSimpArgs false
set_option linter.unnecessarySimpa false
namespace Go.Proofs.YtaabmkebbnkonaaDoor
open Go.ChangeShapes Go.WideShapes Go.ChangeAt Go.RowKit Go.Deep SetPlain
def OncePost (m : Nat) (ao : Option Addr) (cap : Nat) (rb : Rows) (P K N : Nat) (r : Rl) (In : Nat → Nat → Bool) (W : World) (e : Ending) (W' : World) : Prop :=
  e = .returned (.bool (onceTo P K r In P).2) ∧ RefM W' m ao cap rb P K N (onceTo P K r In P).1 ∧ Keeps (refRows rb N) W W'
section
variable {W : World} {m : Nat} {ao : Option Addr} {cap : Nat} {rb : Rows} {P K N : Nat} {In : Nat → Nat → Bool}
set_option maxRecDepth 100000 in
set_option maxHeartbeats 3200000 in
theorem once_k1 (h : RefM W m ao cap rb P K N In) (hP : P ≤ 64) (hK : K ≤ 64) (who a b via : Int) (hn : Nat) (hh : hn < N) :
    Calls Tryd.prog 33 #[.pointer (some ⟨m, 0, none⟩), .agg #[.int .i64 1, .int .i64 hn, .int .i64 who, .int .i64 a, .int .i64 b, .int .i64 via]] W (OncePost m ao cap rb P K N ⟨1, hn, who, a, b, via⟩ In W) := by
  obtain ⟨g, k, cur, rfl, _⟩ := h.ptr (by omega)
  have hs := OnceM.start h ⟨1, hn, who, a, b, via⟩
  unfold ruleObj at hs
  simp only [] at hs
  have HS0 := Lib.hid hs
  clear hs h
  have hnI : (hn : Int) < (N : Int) := by omega
  go_enter Tryd.func33, Tryd.ntmps33
  go_wp2_with fail
  go_loopg [5, 6] P (fun q s t wr => ∃ n : Nat, n ≤ P ∧ q = P - n ∧ s = .bool (onceTo P K ⟨1, hn, who, a, b, via⟩ In n).2 ∧ t = .int .i64 n ∧ Hid (OnceM m (some ⟨g, k, none⟩) cap rb P K N W.heap.size ⟨1, hn, who, a, b, via⟩ W (onceTo P K ⟨1, hn, who, a, b, via⟩ In n).1 wr))
  case atStart => exact ⟨0, Nat.zero_le _, rfl, rfl, rfl, HS0.out⟩
  case round =>
    clear HS0
    obtain ⟨n, hnP, rfl, rfl, rfl, hat⟩ := hrel
    by_cases hlt : n < P
    · have hltI : (n : Int) < (P : Int) := by omega
      obtain ⟨I, hI0⟩ : ∃ I, (onceTo P K ⟨1, hn, who, a, b, via⟩ In n).1 = I := ⟨_, rfl⟩
      obtain ⟨more, hMo0⟩ : ∃ mx, (onceTo P K ⟨1, hn, who, a, b, via⟩ In n).2 = mx := ⟨_, rfl⟩
      rw [hI0] at hat
      rw [hMo0]
      have hI := Lib.hid hI0
      have hMo := Lib.hid hMo0
      clear hI0 hMo0
      by_cases hw : who = (n : Int)
      · have hprem : Hid (prem P K ⟨1, hn, who, a, b, via⟩ I n = true) := by
          show prem P K ⟨1, hn, who, a, b, via⟩ I n = true
          unfold prem
          rw [if_pos rfl]; exact decide_eq_true hw.symm
        have hwI : ((n : Int) == who) = true := by simpa using hw.symm
        clear hw
        cases hvh : I hn n with
        | true =>
          have ESTAY : Hid ((onceTo P K ⟨1, hn, who, a, b, via⟩ In (n + 1)).1 = I ∧ Value.bool more = .bool (onceTo P K ⟨1, hn, who, a, b, via⟩ In (n + 1)).2) := by
            have hst := onceTo_stay (P := P) (K := K) (r := ⟨1, hn, who, a, b, via⟩) (In := In) (n := n) (by rw [hI.out]; show (_ && !I hn n) = false; rw [hvh]; simp)
            exact ⟨by rw [hst, hI.out], by rw [hst, hMo.out]⟩
          obtain ⟨m0, m1, m2, q0, q1, q2, q3, q4, q5⟩ := hat.out.rd
          simp only [] at q0 q1 q2 q3 q4 q5
          have ph := hat.out.ptr rfl hh
          have bh := hat.out.mem.bit hh hlt
          rw [hvh] at bh
          go_wp2_with fail
          go_quiet (fail)
          have ON : Hid (OnceM m (some ⟨g, k, none⟩) cap rb P K N W.heap.size ⟨1, hn, who, a, b, via⟩ W I (wr.drewN nq)) := hat.out.quiet (Keeps.drewN (Keeps.refl _ _) _)
          clear hprem m0 m1 m2 q0 q1 q2 q3 q4 q5 ph bh
          go_wp2_with fail
          go_roundg (P - (n + 1))
          case measure => omega
          case rel => exact ⟨n + 1, by omega, rfl, ESTAY.out.2, by go_num, by rw [ESTAY.out.1]; exact ON.out⟩
        | false =>
          have ESET : Hid ((onceTo P K ⟨1, hn, who, a, b, via⟩ In (n + 1)).1 = setIn I hn n ∧ Value.bool true = .bool (onceTo P K ⟨1, hn, who, a, b, via⟩ In (n + 1)).2) := by
            have hst := onceTo_set (P := P) (K := K) (r := ⟨1, hn, who, a, b, via⟩) (In := In) (n := n) (by rw [hI.out, hprem.out]; show (true && !I hn n) = true; rw [hvh]; rfl)
            rw [hst, hI.out]
            exact ⟨rfl, rfl⟩
          obtain ⟨m0, m1, m2, q0, q1, q2, q3, q4, q5⟩ := hat.out.rd
          simp only [] at q0 q1 q2 q3 q4 q5
          have ph := hat.out.ptr rfl hh
          have bh := hat.out.mem.bit hh hlt
          rw [hvh] at bh
          go_wp2_with fail
          go_quiet (fail)
          have ON : Hid (OnceM m (some ⟨g, k, none⟩) cap rb P K N W.heap.size ⟨1, hn, who, a, b, via⟩ W I (wr.drewN nq)) := hat.out.quiet (Keeps.drewN (Keeps.refl _ _) _)
          clear hprem m0 m1 m2 q0 q1 q2 q3 q4 q5 ph bh
          generalize wr.drewN nq = wq at ON ⊢
          obtain ⟨m0, m1, m2, q0, q1, q2, q3, q4, q5⟩ := ON.out.rd
          simp only [] at q0 q1 q2 q3 q4 q5
          have ph := ON.out.ptr rfl hh
          have bh := ON.out.mem.bit hh hlt
          rw [hvh] at bh
          have fr := ON.out.free hh n
          go_wp2_with fail
          go_region
          have OS : Hid (OnceM m (some ⟨g, k, none⟩) cap rb P K N W.heap.size ⟨1, hn, who, a, b, via⟩ W (setIn I hn n) (wq.setCell ⟨rb.blk hn, rb.off hn + n, none⟩ (.bool true)).drew) := (ON.out.set hh hlt).quiet ((Keeps.refl _ _).drew)
          clear m0 m1 m2 q0 q1 q2 q3 q4 q5 ph bh fr ON
          go_wp2_with fail
          go_roundg (P - (n + 1))
          case measure => omega
          case rel => exact ⟨n + 1, by omega, rfl, ESET.out.2, by go_num, by rw [ESET.out.1]; exact OS.out⟩
      · have hprem : Hid (prem P K ⟨1, hn, who, a, b, via⟩ I n = false) := by
          show prem P K ⟨1, hn, who, a, b, via⟩ I n = false
          unfold prem
          rw [if_pos rfl]; exact decide_eq_false (fun e => hw e.symm)
        have hwI : ((n : Int) == who) = false := beqf (fun e => hw e.symm)
        obtain ⟨m0, m1, m2, q0, q1, q2, q3, q4, q5⟩ := hat.out.rd
        simp only [] at q0 q1 q2 q3 q4 q5
        have ESTAY : Hid ((onceTo P K ⟨1, hn, who, a, b, via⟩ In (n + 1)).1 = I ∧ Value.bool more = .bool (onceTo P K ⟨1, hn, who, a, b, via⟩ In (n + 1)).2) := by
          have hst := onceTo_stay (P := P) (K := K) (r := ⟨1, hn, who, a, b, via⟩) (In := In) (n := n) (by rw [hI.out]; simp only [hprem.out, Bool.false_and])
          exact ⟨by rw [hst, hI.out], by rw [hst, hMo.out]⟩
        go_wp2_with fail
        go_quiet (fail)
        have ON : Hid (OnceM m (some ⟨g, k, none⟩) cap rb P K N W.heap.size ⟨1, hn, who, a, b, via⟩ W I (wr.drewN nq)) := hat.out.quiet (Keeps.drewN (Keeps.refl _ _) _)
        clear hprem
        go_wp2_with fail
        go_roundg (P - (n + 1))
        case measure => omega
        case rel => exact ⟨n + 1, by omega, rfl, ESTAY.out.2, by go_num, by rw [ESTAY.out.1]; exact ON.out⟩
    · obtain rfl : n = P := by omega
      obtain ⟨m0, m1, m2, q0, q1, q2, q3, q4, q5⟩ := hat.out.rd
      have hpost : OncePost m (some ⟨g, k, none⟩) cap rb n K N ⟨1, hn, who, a, b, via⟩ In W (.returned (.bool (onceTo n K ⟨1, hn, who, a, b, via⟩ In n).2)) wr := ⟨rfl, hat.out.mem, hat.out.keep⟩
      have HP := Lib.hid hpost
      clear hpost hat q0 q1 q2 q3 q4 q5
      generalize (onceTo n K ⟨1, hn, who, a, b, via⟩ In n).2 = res at HP ⊢
      go_wp2_with fail
      go_ret
      exact HP.out
set_option maxRecDepth 100000 in
set_option maxHeartbeats 3200000 in
theorem once_k2 (h : RefM W m ao cap rb P K N In) (hP : P ≤ 64) (hK : K ≤ 64) (who b via : Int) (hn an : Nat) (hh : hn < N) (ha : an < N) :
    Calls Tryd.prog 33 #[.pointer (some ⟨m, 0, none⟩), .agg #[.int .i64 2, .int .i64 hn, .int .i64 who, .int .i64 an, .int .i64 b, .int .i64 via]] W (OncePost m ao cap rb P K N ⟨2, hn, who, an, b, via⟩ In W) := by
  obtain ⟨g, k, cur, rfl, _⟩ := h.ptr (by omega)
  have hs := OnceM.start h ⟨2, hn, who, an, b, via⟩
  unfold ruleObj at hs
  simp only [] at hs
  have HS0 := Lib.hid hs
  clear hs h
  have hnI : (hn : Int) < (N : Int) := by omega
  have anI : (an : Int) < (N : Int) := by omega
  go_enter Tryd.func33, Tryd.ntmps33
  go_wp2_with fail
  go_loopg [5, 6] P (fun q s t wr => ∃ n : Nat, n ≤ P ∧ q = P - n ∧ s = .bool (onceTo P K ⟨2, hn, who, an, b, via⟩ In n).2 ∧ t = .int .i64 n ∧ Hid (OnceM m (some ⟨g, k, none⟩) cap rb P K N W.heap.size ⟨2, hn, who, an, b, via⟩ W (onceTo P K ⟨2, hn, who, an, b, via⟩ In n).1 wr))
  case atStart => exact ⟨0, Nat.zero_le _, rfl, rfl, rfl, HS0.out⟩
  case round =>
    clear HS0
    obtain ⟨n, hnP, rfl, rfl, rfl, hat⟩ := hrel
    by_cases hlt : n < P
    · have hltI : (n : Int) < (P : Int) := by omega
      obtain ⟨I, hI0⟩ : ∃ I, (onceTo P K ⟨2, hn, who, an, b, via⟩ In n).1 = I := ⟨_, rfl⟩
      obtain ⟨more, hMo0⟩ : ∃ mx, (onceTo P K ⟨2, hn, who, an, b, via⟩ In n).2 = mx := ⟨_, rfl⟩
      rw [hI0] at hat
      rw [hMo0]
      have hI := Lib.hid hI0
      have hMo := Lib.hid hMo0
      clear hI0 hMo0
      cases hva : I an n with
      | true =>
        have hprem : Hid (prem P K ⟨2, hn, who, an, b, via⟩ I n = true) := by
          show prem P K ⟨2, hn, who, an, b, via⟩ I n = true
          unfold prem
          rw [if_neg (by simp only []; decide), if_pos rfl]; exact hva
        obtain ⟨m0, m1, m2, q0, q1, q2, q3, q4, q5⟩ := hat.out.rd
        simp only [] at q0 q1 q2 q3 q4 q5
        have pa := hat.out.ptr rfl ha
        have ba := hat.out.mem.bit ha hlt
        rw [hva] at ba
        go_upto_region 11 with fail
        go_quiet (fail)
        have ON0 : Hid (OnceM m (some ⟨g, k, none⟩) cap rb P K N W.heap.size ⟨2, hn, who, an, b, via⟩ W I (wr.drewN nq)) := hat.out.quiet (Keeps.drewN (Keeps.refl _ _) _)
        clear hat m0 m1 m2 q0 q1 q2 q3 q4 q5 pa ba
        generalize wr.drewN nq = w0 at ON0 ⊢
        cases hvh : I hn n with
        | true =>
          have ESTAY : Hid ((onceTo P K ⟨2, hn, who, an, b, via⟩ In (n + 1)).1 = I ∧ Value.bool more = .bool (onceTo P K ⟨2, hn, who, an, b, via⟩ In (n + 1)).2) := by
            have hst := onceTo_stay (P := P) (K := K) (r := ⟨2, hn, who, an, b, via⟩) (In := In) (n := n) (by rw [hI.out]; show (_ && !I hn n) = false; rw [hvh]; simp)
            exact ⟨by rw [hst, hI.out], by rw [hst, hMo.out]⟩
          obtain ⟨m0, m1, m2, q0, q1, q2, q3, q4, q5⟩ := ON0.out.rd
          simp only [] at q0 q1 q2 q3 q4 q5
          have ph := ON0.out.ptr rfl hh
          have bh := ON0.out.mem.bit hh hlt
          rw [hvh] at bh
          go_wp2_with fail
          go_quiet (fail)
          have ON : Hid (OnceM m (some ⟨g, k, none⟩) cap rb P K N W.heap.size ⟨2, hn, who, an, b, via⟩ W I (w0.drewN nq)) := ON0.out.quiet (Keeps.drewN (Keeps.refl _ _) _)
          clear hprem m0 m1 m2 q0 q1 q2 q3 q4 q5 ph bh
          go_wp2_with fail
          go_roundg (P - (n + 1))
          case measure => omega
          case rel => exact ⟨n + 1, by omega, rfl, ESTAY.out.2, by go_num, by rw [ESTAY.out.1]; exact ON.out⟩
        | false =>
          have ESET : Hid ((onceTo P K ⟨2, hn, who, an, b, via⟩ In (n + 1)).1 = setIn I hn n ∧ Value.bool true = .bool (onceTo P K ⟨2, hn, who, an, b, via⟩ In (n + 1)).2) := by
            have hst := onceTo_set (P := P) (K := K) (r := ⟨2, hn, who, an, b, via⟩) (In := In) (n := n) (by rw [hI.out, hprem.out]; show (true && !I hn n) = true; rw [hvh]; rfl)
            rw [hst, hI.out]
            exact ⟨rfl, rfl⟩
          obtain ⟨m0, m1, m2, q0, q1, q2, q3, q4, q5⟩ := ON0.out.rd
          simp only [] at q0 q1 q2 q3 q4 q5
          have ph := ON0.out.ptr rfl hh
          have bh := ON0.out.mem.bit hh hlt
          rw [hvh] at bh
          go_wp2_with fail
          go_quiet (fail)
          have ON : Hid (OnceM m (some ⟨g, k, none⟩) cap rb P K N W.heap.size ⟨2, hn, who, an, b, via⟩ W I (w0.drewN nq)) := ON0.out.quiet (Keeps.drewN (Keeps.refl _ _) _)
          clear hprem m0 m1 m2 q0 q1 q2 q3 q4 q5 ph bh
          generalize w0.drewN nq = wq at ON ⊢
          obtain ⟨m0, m1, m2, q0, q1, q2, q3, q4, q5⟩ := ON.out.rd
          simp only [] at q0 q1 q2 q3 q4 q5
          have ph := ON.out.ptr rfl hh
          have bh := ON.out.mem.bit hh hlt
          rw [hvh] at bh
          have fr := ON.out.free hh n
          go_wp2_with fail
          go_region
          have OS : Hid (OnceM m (some ⟨g, k, none⟩) cap rb P K N W.heap.size ⟨2, hn, who, an, b, via⟩ W (setIn I hn n) (wq.setCell ⟨rb.blk hn, rb.off hn + n, none⟩ (.bool true)).drew) := (ON.out.set hh hlt).quiet ((Keeps.refl _ _).drew)
          clear m0 m1 m2 q0 q1 q2 q3 q4 q5 ph bh fr ON
          go_wp2_with fail
          go_roundg (P - (n + 1))
          case measure => omega
          case rel => exact ⟨n + 1, by omega, rfl, ESET.out.2, by go_num, by rw [ESET.out.1]; exact OS.out⟩
      | false =>
        have hprem : Hid (prem P K ⟨2, hn, who, an, b, via⟩ I n = false) := by
          show prem P K ⟨2, hn, who, an, b, via⟩ I n = false
          unfold prem
          rw [if_neg (by simp only []; decide), if_pos rfl]; exact hva
        obtain ⟨m0, m1, m2, q0, q1, q2, q3, q4, q5⟩ := hat.out.rd
        simp only [] at q0 q1 q2 q3 q4 q5
        have pa := hat.out.ptr rfl ha
        have ba := hat.out.mem.bit ha hlt
        rw [hva] at ba
        go_upto_region 11 with fail
        go_quiet (fail)
        have ON0 : Hid (OnceM m (some ⟨g, k, none⟩) cap rb P K N W.heap.size ⟨2, hn, who, an, b, via⟩ W I (wr.drewN nq)) := hat.out.quiet (Keeps.drewN (Keeps.refl _ _) _)
        clear hat m0 m1 m2 q0 q1 q2 q3 q4 q5 pa ba
        generalize wr.drewN nq = w0 at ON0 ⊢
        have ESTAY : Hid ((onceTo P K ⟨2, hn, who, an, b, via⟩ In (n + 1)).1 = I ∧ Value.bool more = .bool (onceTo P K ⟨2, hn, who, an, b, via⟩ In (n + 1)).2) := by
          have hst := onceTo_stay (P := P) (K := K) (r := ⟨2, hn, who, an, b, via⟩) (In := In) (n := n) (by rw [hI.out]; simp only [hprem.out, Bool.false_and])
          exact ⟨by rw [hst, hI.out], by rw [hst, hMo.out]⟩
        go_wp2_with fail
        go_quiet (fail)
        have ON : Hid (OnceM m (some ⟨g, k, none⟩) cap rb P K N W.heap.size ⟨2, hn, who, an, b, via⟩ W I (w0.drewN nq)) := ON0.out.quiet (Keeps.drewN (Keeps.refl _ _) _)
        clear hprem
        go_wp2_with fail
        go_roundg (P - (n + 1))
        case measure => omega
        case rel => exact ⟨n + 1, by omega, rfl, ESTAY.out.2, by go_num, by rw [ESTAY.out.1]; exact ON.out⟩
    · obtain rfl : n = P := by omega
      obtain ⟨m0, m1, m2, q0, q1, q2, q3, q4, q5⟩ := hat.out.rd
      have hpost : OncePost m (some ⟨g, k, none⟩) cap rb n K N ⟨2, hn, who, an, b, via⟩ In W (.returned (.bool (onceTo n K ⟨2, hn, who, an, b, via⟩ In n).2)) wr := ⟨rfl, hat.out.mem, hat.out.keep⟩
      have HP := Lib.hid hpost
      clear hpost hat q0 q1 q2 q3 q4 q5
      generalize (onceTo n K ⟨2, hn, who, an, b, via⟩ In n).2 = res at HP ⊢
      go_wp2_with fail
      go_ret
      exact HP.out
set_option maxRecDepth 100000 in
set_option maxHeartbeats 3200000 in
theorem once_k4 (h : RefM W m ao cap rb P K N In) (hP : P ≤ 64) (hK : K ≤ 64) (who via : Int) (hn an bn : Nat) (hh : hn < N) (ha : an < N) (hb : bn < N) :
    Calls Tryd.prog 33 #[.pointer (some ⟨m, 0, none⟩), .agg #[.int .i64 4, .int .i64 hn, .int .i64 who, .int .i64 an, .int .i64 bn, .int .i64 via]] W (OncePost m ao cap rb P K N ⟨4, hn, who, an, bn, via⟩ In W) := by
  obtain ⟨g, k, cur, rfl, _⟩ := h.ptr (by omega)
  have hs := OnceM.start h ⟨4, hn, who, an, bn, via⟩
  unfold ruleObj at hs
  simp only [] at hs
  have HS0 := Lib.hid hs
  clear hs h
  have hnI : (hn : Int) < (N : Int) := by omega
  have anI : (an : Int) < (N : Int) := by omega
  have bnI : (bn : Int) < (N : Int) := by omega
  go_enter Tryd.func33, Tryd.ntmps33
  go_wp2_with fail
  go_loopg [5, 6] P (fun q s t wr => ∃ n : Nat, n ≤ P ∧ q = P - n ∧ s = .bool (onceTo P K ⟨4, hn, who, an, bn, via⟩ In n).2 ∧ t = .int .i64 n ∧ Hid (OnceM m (some ⟨g, k, none⟩) cap rb P K N W.heap.size ⟨4, hn, who, an, bn, via⟩ W (onceTo P K ⟨4, hn, who, an, bn, via⟩ In n).1 wr))
  case atStart => exact ⟨0, Nat.zero_le _, rfl, rfl, rfl, HS0.out⟩
  case round =>
    clear HS0
    obtain ⟨n, hnP, rfl, rfl, rfl, hat⟩ := hrel
    by_cases hlt : n < P
    · have hltI : (n : Int) < (P : Int) := by omega
      obtain ⟨I, hI0⟩ : ∃ I, (onceTo P K ⟨4, hn, who, an, bn, via⟩ In n).1 = I := ⟨_, rfl⟩
      obtain ⟨more, hMo0⟩ : ∃ mx, (onceTo P K ⟨4, hn, who, an, bn, via⟩ In n).2 = mx := ⟨_, rfl⟩
      rw [hI0] at hat
      rw [hMo0]
      have hI := Lib.hid hI0
      have hMo := Lib.hid hMo0
      clear hI0 hMo0
      cases hva : I an n with
      | true =>
        cases hvb : I bn n with
        | true =>
          have hprem : Hid (prem P K ⟨4, hn, who, an, bn, via⟩ I n = true) := by
            show prem P K ⟨4, hn, who, an, bn, via⟩ I n = true
            unfold prem
            rw [if_neg (by simp only []; decide), if_neg (by simp only []; decide), if_neg (by simp only []; decide)]; show (I an n && I bn n) = _; rw [hva, hvb]; rfl
          obtain ⟨m0, m1, m2, q0, q1, q2, q3, q4, q5⟩ := hat.out.rd
          simp only [] at q0 q1 q2 q3 q4 q5
          have pa := hat.out.ptr rfl ha
          have ba := hat.out.mem.bit ha hlt
          rw [hva] at ba
          have pb := hat.out.ptr rfl hb
          have bb := hat.out.mem.bit hb hlt
          rw [hvb] at bb
          go_upto_region 7 with fail
          go_quiet (fail)
          have ON0 : Hid (OnceM m (some ⟨g, k, none⟩) cap rb P K N W.heap.size ⟨4, hn, who, an, bn, via⟩ W I (wr.drewN nq)) := hat.out.quiet (Keeps.drewN (Keeps.refl _ _) _)
          clear hat m0 m1 m2 q0 q1 q2 q3 q4 q5 pa ba pb bb
          generalize wr.drewN nq = w0 at ON0 ⊢
          cases hvh : I hn n with
          | true =>
            have ESTAY : Hid ((onceTo P K ⟨4, hn, who, an, bn, via⟩ In (n + 1)).1 = I ∧ Value.bool more = .bool (onceTo P K ⟨4, hn, who, an, bn, via⟩ In (n + 1)).2) := by
              have hst := onceTo_stay (P := P) (K := K) (r := ⟨4, hn, who, an, bn, via⟩) (In := In) (n := n) (by rw [hI.out]; show (_ && !I hn n) = false; rw [hvh]; simp)
              exact ⟨by rw [hst, hI.out], by rw [hst, hMo.out]⟩
            obtain ⟨m0, m1, m2, q0, q1, q2, q3, q4, q5⟩ := ON0.out.rd
            simp only [] at q0 q1 q2 q3 q4 q5
            have ph := ON0.out.ptr rfl hh
            have bh := ON0.out.mem.bit hh hlt
            rw [hvh] at bh
            go_wp2_with fail
            go_quiet (fail)
            have ON : Hid (OnceM m (some ⟨g, k, none⟩) cap rb P K N W.heap.size ⟨4, hn, who, an, bn, via⟩ W I (w0.drewN nq)) := ON0.out.quiet (Keeps.drewN (Keeps.refl _ _) _)
            clear hprem m0 m1 m2 q0 q1 q2 q3 q4 q5 ph bh
            go_wp2_with fail
            go_roundg (P - (n + 1))
            case measure => omega
            case rel => exact ⟨n + 1, by omega, rfl, ESTAY.out.2, by go_num, by rw [ESTAY.out.1]; exact ON.out⟩
          | false =>
            have ESET : Hid ((onceTo P K ⟨4, hn, who, an, bn, via⟩ In (n + 1)).1 = setIn I hn n ∧ Value.bool true = .bool (onceTo P K ⟨4, hn, who, an, bn, via⟩ In (n + 1)).2) := by
              have hst := onceTo_set (P := P) (K := K) (r := ⟨4, hn, who, an, bn, via⟩) (In := In) (n := n) (by rw [hI.out, hprem.out]; show (true && !I hn n) = true; rw [hvh]; rfl)
              rw [hst, hI.out]
              exact ⟨rfl, rfl⟩
            obtain ⟨m0, m1, m2, q0, q1, q2, q3, q4, q5⟩ := ON0.out.rd
            simp only [] at q0 q1 q2 q3 q4 q5
            have ph := ON0.out.ptr rfl hh
            have bh := ON0.out.mem.bit hh hlt
            rw [hvh] at bh
            go_wp2_with fail
            go_quiet (fail)
            have ON : Hid (OnceM m (some ⟨g, k, none⟩) cap rb P K N W.heap.size ⟨4, hn, who, an, bn, via⟩ W I (w0.drewN nq)) := ON0.out.quiet (Keeps.drewN (Keeps.refl _ _) _)
            clear hprem m0 m1 m2 q0 q1 q2 q3 q4 q5 ph bh
            generalize w0.drewN nq = wq at ON ⊢
            obtain ⟨m0, m1, m2, q0, q1, q2, q3, q4, q5⟩ := ON.out.rd
            simp only [] at q0 q1 q2 q3 q4 q5
            have ph := ON.out.ptr rfl hh
            have bh := ON.out.mem.bit hh hlt
            rw [hvh] at bh
            have fr := ON.out.free hh n
            go_wp2_with fail
            go_region
            have OS : Hid (OnceM m (some ⟨g, k, none⟩) cap rb P K N W.heap.size ⟨4, hn, who, an, bn, via⟩ W (setIn I hn n) (wq.setCell ⟨rb.blk hn, rb.off hn + n, none⟩ (.bool true)).drew) := (ON.out.set hh hlt).quiet ((Keeps.refl _ _).drew)
            clear m0 m1 m2 q0 q1 q2 q3 q4 q5 ph bh fr ON
            go_wp2_with fail
            go_roundg (P - (n + 1))
            case measure => omega
            case rel => exact ⟨n + 1, by omega, rfl, ESET.out.2, by go_num, by rw [ESET.out.1]; exact OS.out⟩
        | false =>
          have hprem : Hid (prem P K ⟨4, hn, who, an, bn, via⟩ I n = false) := by
            show prem P K ⟨4, hn, who, an, bn, via⟩ I n = false
            unfold prem
            rw [if_neg (by simp only []; decide), if_neg (by simp only []; decide), if_neg (by simp only []; decide)]; show (I an n && I bn n) = _; rw [hva, hvb]; rfl
          obtain ⟨m0, m1, m2, q0, q1, q2, q3, q4, q5⟩ := hat.out.rd
          simp only [] at q0 q1 q2 q3 q4 q5
          have pa := hat.out.ptr rfl ha
          have ba := hat.out.mem.bit ha hlt
          rw [hva] at ba
          have pb := hat.out.ptr rfl hb
          have bb := hat.out.mem.bit hb hlt
          rw [hvb] at bb
          go_upto_region 7 with fail
          go_quiet (fail)
          have ON0 : Hid (OnceM m (some ⟨g, k, none⟩) cap rb P K N W.heap.size ⟨4, hn, who, an, bn, via⟩ W I (wr.drewN nq)) := hat.out.quiet (Keeps.drewN (Keeps.refl _ _) _)
          clear hat m0 m1 m2 q0 q1 q2 q3 q4 q5 pa ba pb bb
          generalize wr.drewN nq = w0 at ON0 ⊢
          have ESTAY : Hid ((onceTo P K ⟨4, hn, who, an, bn, via⟩ In (n + 1)).1 = I ∧ Value.bool more = .bool (onceTo P K ⟨4, hn, who, an, bn, via⟩ In (n + 1)).2) := by
            have hst := onceTo_stay (P := P) (K := K) (r := ⟨4, hn, who, an, bn, via⟩) (In := In) (n := n) (by rw [hI.out]; simp only [hprem.out, Bool.false_and])
            exact ⟨by rw [hst, hI.out], by rw [hst, hMo.out]⟩
          go_wp2_with fail
          go_quiet (fail)
          have ON : Hid (OnceM m (some ⟨g, k, none⟩) cap rb P K N W.heap.size ⟨4, hn, who, an, bn, via⟩ W I (w0.drewN nq)) := ON0.out.quiet (Keeps.drewN (Keeps.refl _ _) _)
          clear hprem
          go_wp2_with fail
          go_roundg (P - (n + 1))
          case measure => omega
          case rel => exact ⟨n + 1, by omega, rfl, ESTAY.out.2, by go_num, by rw [ESTAY.out.1]; exact ON.out⟩
      | false =>
        have hprem : Hid (prem P K ⟨4, hn, who, an, bn, via⟩ I n = false) := by
          show prem P K ⟨4, hn, who, an, bn, via⟩ I n = false
          unfold prem
          rw [if_neg (by simp only []; decide), if_neg (by simp only []; decide), if_neg (by simp only []; decide)]; show (I an n && I bn n) = _; rw [hva]; rfl
        obtain ⟨m0, m1, m2, q0, q1, q2, q3, q4, q5⟩ := hat.out.rd
        simp only [] at q0 q1 q2 q3 q4 q5
        have pa := hat.out.ptr rfl ha
        have ba := hat.out.mem.bit ha hlt
        rw [hva] at ba
        go_upto_region 7 with fail
        go_quiet (fail)
        have ON0 : Hid (OnceM m (some ⟨g, k, none⟩) cap rb P K N W.heap.size ⟨4, hn, who, an, bn, via⟩ W I (wr.drewN nq)) := hat.out.quiet (Keeps.drewN (Keeps.refl _ _) _)
        clear hat m0 m1 m2 q0 q1 q2 q3 q4 q5 pa ba
        generalize wr.drewN nq = w0 at ON0 ⊢
        have ESTAY : Hid ((onceTo P K ⟨4, hn, who, an, bn, via⟩ In (n + 1)).1 = I ∧ Value.bool more = .bool (onceTo P K ⟨4, hn, who, an, bn, via⟩ In (n + 1)).2) := by
          have hst := onceTo_stay (P := P) (K := K) (r := ⟨4, hn, who, an, bn, via⟩) (In := In) (n := n) (by rw [hI.out]; simp only [hprem.out, Bool.false_and])
          exact ⟨by rw [hst, hI.out], by rw [hst, hMo.out]⟩
        go_wp2_with fail
        go_quiet (fail)
        have ON : Hid (OnceM m (some ⟨g, k, none⟩) cap rb P K N W.heap.size ⟨4, hn, who, an, bn, via⟩ W I (w0.drewN nq)) := ON0.out.quiet (Keeps.drewN (Keeps.refl _ _) _)
        clear hprem
        go_wp2_with fail
        go_roundg (P - (n + 1))
        case measure => omega
        case rel => exact ⟨n + 1, by omega, rfl, ESTAY.out.2, by go_num, by rw [ESTAY.out.1]; exact ON.out⟩
    · obtain rfl : n = P := by omega
      obtain ⟨m0, m1, m2, q0, q1, q2, q3, q4, q5⟩ := hat.out.rd
      have hpost : OncePost m (some ⟨g, k, none⟩) cap rb n K N ⟨4, hn, who, an, bn, via⟩ In W (.returned (.bool (onceTo n K ⟨4, hn, who, an, bn, via⟩ In n).2)) wr := ⟨rfl, hat.out.mem, hat.out.keep⟩
      have HP := Lib.hid hpost
      clear hpost hat q0 q1 q2 q3 q4 q5
      generalize (onceTo n K ⟨4, hn, who, an, bn, via⟩ In n).2 = res at HP ⊢
      go_wp2_with fail
      go_ret
      exact HP.out
end
end Go.Proofs.YtaabmkebbnkonaaDoor
