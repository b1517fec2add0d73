/-
  The walk of the document's once: a rule that links.
-/
import Derived.Test.YtaabmkebbnkonaaDoorRefOnce
import Derived.Test.YtaabmkebbnkonaaDoorRefPlain
import Derived.Deep.QuietTactic
import Derived.BigQuiet
set_option linter.unusedVariables false
set_option linter.unusedSimpArgs false
set_option linter.unnecessarySimpa false
namespace Go.Proofs.YtaabmkebbnkonaaDoor
open Go.ChangeShapes Go.WideShapes Go.ChangeAt Go.RowKit Go.Deep SetPlain
section
variable {W : World} {m : Nat} {ao : Option Addr} {cap : Nat} {rb : Rows} {P K N : Nat} {In : Nat → Nat → Bool}
set_option maxRecDepth 100000 in
set_option maxHeartbeats 3200000 in
theorem once_k3 (h : RefM W m ao cap rb P K N In) (hP : P ≤ 64) (hK : K ≤ 64) (who b : Int) (hn an vn : Nat) (hh : hn < N) (ha : an < N) (hvK : vn < K) (hNK : N = P * K) :
    Calls Tryd.prog 33 #[.pointer (some ⟨m, 0, none⟩), .agg #[.int .i64 3, .int .i64 hn, .int .i64 who, .int .i64 an, .int .i64 b, .int .i64 vn]] W (OncePost m ao cap rb P K N ⟨3, hn, who, an, b, vn⟩ In W) := by
  obtain ⟨g, k, cur, rfl, _⟩ := h.ptr (by omega)
  have hs := OnceM.start h ⟨3, hn, who, an, b, vn⟩
  unfold ruleObj at hs
  simp only [] at hs
  have HS0 := Lib.hid hs
  clear hs h
  have hnI : (hn : Int) < (N : Int) := by omega
  have anI : (an : Int) < (N : Int) := by omega
  go_enter Tryd.func33, Tryd.ntmps33
  go_wp2_with fail
  go_loopg [5, 6] P (fun q s t wr => ∃ n : Nat, n ≤ P ∧ q = P - n ∧ s = .bool (onceTo P K ⟨3, hn, who, an, b, vn⟩ In n).2 ∧ t = .int .i64 n ∧ Hid (OnceM m (some ⟨g, k, none⟩) cap rb P K N W.heap.size ⟨3, hn, who, an, b, vn⟩ W (onceTo P K ⟨3, hn, who, an, b, vn⟩ In n).1 wr))
  case atStart => exact ⟨0, Nat.zero_le _, rfl, rfl, rfl, HS0.out⟩
  case round =>
    clear HS0
    obtain ⟨n, hnP, rfl, rfl, rfl, hat⟩ := hrel
    by_cases hlt : n < P
    · have hltI : (n : Int) < (P : Int) := by omega
      obtain ⟨I, hI0⟩ : ∃ I, (onceTo P K ⟨3, hn, who, an, b, vn⟩ In n).1 = I := ⟨_, rfl⟩
      obtain ⟨more, hMo0⟩ : ∃ mx, (onceTo P K ⟨3, hn, who, an, b, vn⟩ In n).2 = mx := ⟨_, rfl⟩
      rw [hI0] at hat
      rw [hMo0]
      have hI := Lib.hid hI0
      have hMo := Lib.hid hMo0
      clear hI0 hMo0
      obtain ⟨A, hA⟩ : ∃ A : Nat → Bool, A = anyIn (fun x => I an x) (fun x => I (x * K + vn) n) := ⟨_, rfl⟩
      have HA : Hid (A 0 = false ∧ (∀ x, A (x + 1) = (A x || (I an x && I (x * K + vn) n))) ∧ prem P K ⟨3, hn, who, an, b, vn⟩ I n = A P) := by
        subst hA
        refine ⟨rfl, fun _ => rfl, ?_⟩
        unfold prem
        rw [if_neg (by simp only []; decide), if_neg (by simp only []; decide), if_pos rfl]
        rfl
      clear hA
      obtain ⟨m0, m1, m2, q0, q1, q2, q3, q4, q5⟩ := hat.out.rd
      simp only [] at q0 q1 q2 q3 q4 q5
      go_wp2_with fail
      clear m0 m1 m2 q0 q1 q2 q3 q4 q5
      go_loopg [7, 8] P (fun q s t wy => ∃ x : Nat, x ≤ P ∧ q = P - x ∧ s = .bool (A x) ∧ t = .int .i64 x ∧ Hid (OnceM m (some ⟨g, k, none⟩) cap rb P K N W.heap.size ⟨3, hn, who, an, b, vn⟩ W I wy))
      case atStart => exact ⟨0, Nat.zero_le _, rfl, by rw [HA.out.1], rfl, hat.out⟩
      case round =>
        clear hat
        obtain ⟨x, hxl, rfl, rfl, rfl, hat2⟩ := hrel
        by_cases hxP : x < P
        · have hxI : (x : Int) < (P : Int) := by omega
          obtain ⟨z, hz⟩ : ∃ z, x * K = z := ⟨_, rfl⟩
          have hzl : z ≤ 64 * 64 := by rw [← hz]; exact Nat.mul_le_mul (by omega) hK
          have hw1 : IntKind.i64.wrap ((x : Int) * (K : Int)) = (z : Int) := by
            have : (x : Int) * (K : Int) = (z : Int) := by rw [← hz]; simp
            rw [this]; exact IntWalk.i64_in _ (by omega)
          obtain ⟨y, hy⟩ : ∃ y, z + vn = y := ⟨_, rfl⟩
          have hw2 : IntKind.i64.wrap ((z : Int) + (vn : Int)) = (y : Int) := (IntWalk.i64_in _ (by omega)).trans (by omega)
          have hyN : y < N := by rw [hNK, ← hy, ← hz]; exact mulK_lt hxP hvK
          have hyI : (y : Int) < (N : Int) := by omega
          cases hacc : A x with
          | true =>
            obtain ⟨m0, m1, m2, q0, q1, q2, q3, q4, q5⟩ := hat2.out.rd
            simp only [] at q0 q1 q2 q3 q4 q5
            go_wp2_with fail
            go_quiet (fail)
            have ON : Hid (OnceM m (some ⟨g, k, none⟩) cap rb P K N W.heap.size ⟨3, hn, who, an, b, vn⟩ W I (wr.drewN nq)) := hat2.out.quiet (Keeps.drewN (Keeps.refl _ _) _)
            have HNX : Hid (Value.bool true = .bool (A (x + 1))) := by
              show Value.bool true = .bool (A (x + 1))
              rw [(HA.out.2.1 x)]; simp only [hacc, Bool.true_or]
            clear hat2 m0 m1 m2 q0 q1 q2 q3 q4 q5
            go_wp2_with fail
            go_roundg (P - (x + 1))
            case measure => omega
            case rel => exact ⟨x + 1, by omega, rfl, HNX.out, by go_num, ON.out⟩
          | false =>
            cases hva : I an x with
            | false =>
              obtain ⟨m0, m1, m2, q0, q1, q2, q3, q4, q5⟩ := hat2.out.rd
              simp only [] at q0 q1 q2 q3 q4 q5
              have pa := hat2.out.ptr rfl ha
              have ba := hat2.out.mem.bit ha hxP
              rw [hva] at ba
              go_wp2_with fail
              go_quiet (fail)
              have ON : Hid (OnceM m (some ⟨g, k, none⟩) cap rb P K N W.heap.size ⟨3, hn, who, an, b, vn⟩ W I (wr.drewN nq)) := hat2.out.quiet (Keeps.drewN (Keeps.refl _ _) _)
              have HNX : Hid (Value.bool false = .bool (A (x + 1))) := by
                show Value.bool false = .bool (A (x + 1))
                rw [(HA.out.2.1 x)]; simp only [hacc, hva, Bool.false_or, Bool.false_and]
              clear hat2 m0 m1 m2 q0 q1 q2 q3 q4 q5 pa ba
              go_wp2_with fail
              go_roundg (P - (x + 1))
              case measure => omega
              case rel => exact ⟨x + 1, by omega, rfl, HNX.out, by go_num, ON.out⟩
            | true =>
              cases hvb : I y n with
              | true =>
                have hvb' : I (x * K + vn) n = true := by rw [hz, hy]; exact hvb
                obtain ⟨m0, m1, m2, q0, q1, q2, q3, q4, q5⟩ := hat2.out.rd
                simp only [] at q0 q1 q2 q3 q4 q5
                have pa := hat2.out.ptr rfl ha
                have ba := hat2.out.mem.bit ha hxP
                rw [hva] at ba
                have pb := hat2.out.ptr rfl hyN
                have bb := hat2.out.mem.bit hyN hlt
                rw [hvb] at bb
                go_wp2_with fail
                go_quiet (fail)
                have ON : Hid (OnceM m (some ⟨g, k, none⟩) cap rb P K N W.heap.size ⟨3, hn, who, an, b, vn⟩ W I (wr.drewN nq)) := hat2.out.quiet (Keeps.drewN (Keeps.refl _ _) _)
                have HNX : Hid (Value.bool true = .bool (A (x + 1))) := by
                  show Value.bool true = .bool (A (x + 1))
                  rw [(HA.out.2.1 x)]; simp only [hacc, hva, hvb', Bool.false_or, Bool.true_and]
                clear hat2 m0 m1 m2 q0 q1 q2 q3 q4 q5 pa ba pb bb
                go_wp2_with fail
                go_roundg (P - (x + 1))
                case measure => omega
                case rel => exact ⟨x + 1, by omega, rfl, HNX.out, by go_num, ON.out⟩
              | false =>
                have hvb' : I (x * K + vn) n = false := by rw [hz, hy]; exact hvb
                obtain ⟨m0, m1, m2, q0, q1, q2, q3, q4, q5⟩ := hat2.out.rd
                simp only [] at q0 q1 q2 q3 q4 q5
                have pa := hat2.out.ptr rfl ha
                have ba := hat2.out.mem.bit ha hxP
                rw [hva] at ba
                have pb := hat2.out.ptr rfl hyN
                have bb := hat2.out.mem.bit hyN hlt
                rw [hvb] at bb
                go_wp2_with fail
                go_quiet (fail)
                have ON : Hid (OnceM m (some ⟨g, k, none⟩) cap rb P K N W.heap.size ⟨3, hn, who, an, b, vn⟩ W I (wr.drewN nq)) := hat2.out.quiet (Keeps.drewN (Keeps.refl _ _) _)
                have HNX : Hid (Value.bool false = .bool (A (x + 1))) := by
                  show Value.bool false = .bool (A (x + 1))
                  rw [(HA.out.2.1 x)]; simp only [hacc, hva, hvb', Bool.false_or, Bool.true_and]
                clear hat2 m0 m1 m2 q0 q1 q2 q3 q4 q5 pa ba pb bb
                go_wp2_with fail
                go_roundg (P - (x + 1))
                case measure => omega
                case rel => exact ⟨x + 1, by omega, rfl, HNX.out, by go_num, ON.out⟩
        · have hxe : x = P := by omega
          have hxI : (P : Int) ≤ (x : Int) := by omega
          have hAx : A x = A P := by rw [hxe]
          have HAX := Lib.hid hAx
          clear hAx hxe
          obtain ⟨m0, m1, m2, q0, q1, q2, q3, q4, q5⟩ := hat2.out.rd
          simp only [] at q0 q1 q2 q3 q4 q5
          cases hacc : A x with
          | true =>
            have hprem : Hid (prem P K ⟨3, hn, who, an, b, vn⟩ I n = true) := by
              show prem P K ⟨3, hn, who, an, b, vn⟩ I n = true
              rw [HA.out.2.2, ← HAX.out, hacc]
            cases hvh : I hn n with
            | true =>
              have ESTAY : Hid ((onceTo P K ⟨3, hn, who, an, b, vn⟩ In (n + 1)).1 = I ∧ Value.bool more = .bool (onceTo P K ⟨3, hn, who, an, b, vn⟩ In (n + 1)).2) := by
                have hst := onceTo_stay (P := P) (K := K) (r := ⟨3, hn, who, an, b, vn⟩) (In := In) (n := n) (by rw [hI.out]; show (_ && !I hn n) = false; rw [hvh]; simp)
                exact ⟨by rw [hst, hI.out], by rw [hst, hMo.out]⟩
              obtain ⟨m0, m1, m2, q0, q1, q2, q3, q4, q5⟩ := hat2.out.rd
              simp only [] at q0 q1 q2 q3 q4 q5
              have ph := hat2.out.ptr rfl hh
              have bh := hat2.out.mem.bit hh hlt
              rw [hvh] at bh
              go_wp2_with fail
              go_quiet (fail)
              have ON : Hid (OnceM m (some ⟨g, k, none⟩) cap rb P K N W.heap.size ⟨3, hn, who, an, b, vn⟩ W I (wr.drewN nq)) := hat2.out.quiet (Keeps.drewN (Keeps.refl _ _) _)
              clear hprem m0 m1 m2 q0 q1 q2 q3 q4 q5 ph bh
              go_wp2_with fail
              go_roundg (P - (n + 1))
              case measure => omega
              case rel => exact ⟨n + 1, by omega, rfl, ESTAY.out.2, by go_num, by rw [ESTAY.out.1]; exact ON.out⟩
            | false =>
              have ESET : Hid ((onceTo P K ⟨3, hn, who, an, b, vn⟩ In (n + 1)).1 = setIn I hn n ∧ Value.bool true = .bool (onceTo P K ⟨3, hn, who, an, b, vn⟩ In (n + 1)).2) := by
                have hst := onceTo_set (P := P) (K := K) (r := ⟨3, hn, who, an, b, vn⟩) (In := In) (n := n) (by rw [hI.out, hprem.out]; show (true && !I hn n) = true; rw [hvh]; rfl)
                rw [hst, hI.out]
                exact ⟨rfl, rfl⟩
              obtain ⟨m0, m1, m2, q0, q1, q2, q3, q4, q5⟩ := hat2.out.rd
              simp only [] at q0 q1 q2 q3 q4 q5
              have ph := hat2.out.ptr rfl hh
              have bh := hat2.out.mem.bit hh hlt
              rw [hvh] at bh
              go_wp2_with fail
              go_quiet (fail)
              have ON : Hid (OnceM m (some ⟨g, k, none⟩) cap rb P K N W.heap.size ⟨3, hn, who, an, b, vn⟩ W I (wr.drewN nq)) := hat2.out.quiet (Keeps.drewN (Keeps.refl _ _) _)
              clear hprem m0 m1 m2 q0 q1 q2 q3 q4 q5 ph bh
              generalize wr.drewN nq = wq at ON ⊢
              obtain ⟨m0, m1, m2, q0, q1, q2, q3, q4, q5⟩ := ON.out.rd
              simp only [] at q0 q1 q2 q3 q4 q5
              have ph := ON.out.ptr rfl hh
              have bh := ON.out.mem.bit hh hlt
              rw [hvh] at bh
              have fr := ON.out.free hh n
              go_wp2_with fail
              go_region
              have OS : Hid (OnceM m (some ⟨g, k, none⟩) cap rb P K N W.heap.size ⟨3, hn, who, an, b, vn⟩ W (setIn I hn n) (wq.setCell ⟨rb.blk hn, rb.off hn + n, none⟩ (.bool true)).drew) := (ON.out.set hh hlt).quiet ((Keeps.refl _ _).drew)
              clear m0 m1 m2 q0 q1 q2 q3 q4 q5 ph bh fr ON
              go_wp2_with fail
              go_roundg (P - (n + 1))
              case measure => omega
              case rel => exact ⟨n + 1, by omega, rfl, ESET.out.2, by go_num, by rw [ESET.out.1]; exact OS.out⟩
          | false =>
            have hprem : Hid (prem P K ⟨3, hn, who, an, b, vn⟩ I n = false) := by
              show prem P K ⟨3, hn, who, an, b, vn⟩ I n = false
              rw [HA.out.2.2, ← HAX.out, hacc]
            have ESTAY : Hid ((onceTo P K ⟨3, hn, who, an, b, vn⟩ In (n + 1)).1 = I ∧ Value.bool more = .bool (onceTo P K ⟨3, hn, who, an, b, vn⟩ In (n + 1)).2) := by
              have hst := onceTo_stay (P := P) (K := K) (r := ⟨3, hn, who, an, b, vn⟩) (In := In) (n := n) (by rw [hI.out]; simp only [hprem.out, Bool.false_and])
              exact ⟨by rw [hst, hI.out], by rw [hst, hMo.out]⟩
            go_wp2_with fail
            go_quiet (fail)
            have ON : Hid (OnceM m (some ⟨g, k, none⟩) cap rb P K N W.heap.size ⟨3, hn, who, an, b, vn⟩ W I (wr.drewN nq)) := hat2.out.quiet (Keeps.drewN (Keeps.refl _ _) _)
            clear hprem
            go_wp2_with fail
            go_roundg (P - (n + 1))
            case measure => omega
            case rel => exact ⟨n + 1, by omega, rfl, ESTAY.out.2, by go_num, by rw [ESTAY.out.1]; exact ON.out⟩
    · obtain rfl : n = P := by omega
      obtain ⟨m0, m1, m2, q0, q1, q2, q3, q4, q5⟩ := hat.out.rd
      have hpost : OncePost m (some ⟨g, k, none⟩) cap rb n K N ⟨3, hn, who, an, b, vn⟩ In W (.returned (.bool (onceTo n K ⟨3, hn, who, an, b, vn⟩ In n).2)) wr := ⟨rfl, hat.out.mem, hat.out.keep⟩
      have HP := Lib.hid hpost
      clear hpost hat q0 q1 q2 q3 q4 q5
      generalize (onceTo n K ⟨3, hn, who, an, b, vn⟩ In n).2 = res at HP ⊢
      go_wp2_with fail
      go_ret
      exact HP.out
end
theorem once_spec {W : World} {m : Nat} {ao : Option Addr} {cap : Nat} {rb : Rows} {P K N : Nat} {In : Nat → Nat → Bool} (h : RefM W m ao cap rb P K N In) (hN : N = P * K) (hP : P ≤ 64) (hK : K ≤ 64) (r : Rl) (hR : rightB P K r = true) :
    Calls Tryd.prog 33 #[.pointer (some ⟨m, 0, none⟩), .agg r.cells.toArray] W (OncePost m ao cap rb P K N r In W) := by
  obtain ⟨⟨hh0, hh1⟩, hcase⟩ := right_iff hR
  rw [← hN] at hh1 hcase
  obtain ⟨kind, head, who, a, b, via⟩ := r
  show Calls Tryd.prog 33 #[.pointer (some ⟨m, 0, none⟩), .agg #[.int .i64 kind, .int .i64 head, .int .i64 who, .int .i64 a, .int .i64 b, .int .i64 via]] W _
  simp only [] at hh0 hh1 hcase
  obtain ⟨hn, rfl⟩ : ∃ n : Nat, head = n := ⟨head.toNat, by omega⟩
  rcases hcase with ⟨k1, hw0, hw1⟩ | ⟨k2, ha0, ha1⟩ | ⟨k3, ha0, ha1, hv0, hv1⟩ | ⟨k4, ha0, ha1, hb0, hb1⟩
  · subst k1
    exact once_k1 h hP hK who a b via hn (by omega)
  · subst k2
    obtain ⟨an, rfl⟩ : ∃ n : Nat, a = n := ⟨a.toNat, by omega⟩
    exact once_k2 h hP hK who b via hn an (by omega) (by omega)
  · subst k3
    obtain ⟨an, rfl⟩ : ∃ n : Nat, a = n := ⟨a.toNat, by omega⟩
    obtain ⟨vn, rfl⟩ : ∃ n : Nat, via = n := ⟨via.toNat, by omega⟩
    exact once_k3 h hP hK who b hn an vn (by omega) (by omega) (by omega) hN
  · subst k4
    obtain ⟨an, rfl⟩ : ∃ n : Nat, a = n := ⟨a.toNat, by omega⟩
    obtain ⟨bn, rfl⟩ : ∃ n : Nat, b = n := ⟨b.toNat, by omega⟩
    exact once_k4 h hP hK who via hn an bn (by omega) (by omega) (by omega)
end Go.Proofs.YtaabmkebbnkonaaDoor
