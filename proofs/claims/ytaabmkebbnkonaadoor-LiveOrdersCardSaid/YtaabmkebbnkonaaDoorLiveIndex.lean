/-
  Where a rule stands among rules: the library's Index and Contains.
-/
import Derived.Test.YtaabmkebbnkonaaDoorMD
import Derived.Laws.StructEq
import Derived.Deep.QuietTactic
import Derived.BigQuiet
set_option linter.unusedVariables false
set_option linter.unusedSimpArgs false
set_option linter.unnecessarySimpa false
namespace Go.Proofs.YtaabmkebbnkonaaDoor
open Go.ChangeShapes Go.WideShapes Go.ChangeAt Go.RowKit Go.Deep SetPlain
set_option maxRecDepth 100000
set_option maxHeartbeats 3200000
theorem rule_eq6 (k h w a b v k' h' w' a' b' v' : Int) (W : World) : (binOp .eql 29 (.agg #[.int .i64 k, .int .i64 h, .int .i64 w, .int .i64 a, .int .i64 b, .int .i64 v]) (.agg #[.int .i64 k', .int .i64 h', .int .i64 w', .int .i64 a', .int .i64 b', .int .i64 v'])).run Tryd.prog W =
    .ok (.bool (decide ((⟨k, h, w, a, b, v⟩ : Rl) = ⟨k', h', w', a', b', v'⟩))) W := by
  have u3 := Tryd.underlying3
  have a3 := Tryd.isAgg3
  have z3 := Tryd.sizeOf3
  have hS : Tryd.prog.underlying 29 = some (.struct (Tryd.prog.fieldsOf 29)) := by kernel_rfl
  have hp : Tryd.prog.stoodInHeld 29 = false := by kernel_rfl
  rw [run_eql_struct, show (10000 : Nat) = 9999 + 1 from rfl, run_equalIn_agg W 9999 29 _ _ hS hp]
  simp only [Program.fieldsOf, Tryd.underlying29]
  go_simp
  by_cases h1 : k = k'
  · by_cases h2 : h = h'
    · by_cases h3 : w = w'
      · by_cases h4 : a = a'
        · by_cases h5 : b = b'
          · by_cases h6 : v = v' <;> simp [h1, h2, h3, h4, h5, h6]
          · simp [h1, h2, h3, h4, h5]
        · simp [h1, h2, h3, h4]
      · simp [h1, h2, h3]
    · simp [h1, h2]
  · simp [h1]
/-- Where a rule stands. -/
def IxPost (W : World) (rs : List Rl) (r : Rl) (e : Ending) (W' : World) : Prop := ∃ x : Int, e = .returned (.int .i64 x) ∧ Hid (((x = -1 ∧ r ∉ rs) ∨ ∃ i : Nat, x = i ∧ rs[i]? = some r) ∧ Keeps (fun _ => False) W W')
theorem rindex_spec {W : World} {ao : Option Addr} {n cap : Nat} {rs : List Rl} (hR : RuleRow W ao rs) (hrs : rs.length = n) (hcap : n ≤ cap) (hn : n ≤ 1000000000) (r : Rl) :
    Calls Tryd.prog 27 #[.slice ao n cap, .agg #[.int .i64 r.kind, .int .i64 r.head, .int .i64 r.who, .int .i64 r.a, .int .i64 r.b, .int .i64 r.via]] W (IxPost W rs r) := by
  obtain ⟨kind, head, who, ra, rb, via⟩ := r
  have hal := (MapKept.heap_alloc W (.cells #[.int .i64 kind, .int .i64 head, .int .i64 who, .int .i64 ra, .int .i64 rb, .int .i64 via] 29)).1
  have k0 : Keeps (fun _ => False) W (W.alloc (.cells #[.int .i64 kind, .int .i64 head, .int .i64 who, .int .i64 ra, .int .i64 rb, .int .i64 via] 29)) := (Keeps.refl _ _).alloc _
  have HRB : Hid (∀ W', Keeps (fun _ => False) (W.alloc (.cells #[.int .i64 kind, .int .i64 head, .int .i64 who, .int .i64 ra, .int .i64 rb, .int .i64 via] 29)) W' → Keeps (fun _ => False) W W' ∧ RuleRow W' ao rs ∧ W'.heap[W.heap.size]? = some (.cells #[.int .i64 kind, .int .i64 head, .int .i64 who, .int .i64 ra, .int .i64 rb, .int .i64 via] 29 (0, 0))) := fun W' hk =>
    ⟨k0.trans hk, hR.keeps ((k0.trans hk).below (Nat.le_refl _) (fun _ _ x => x)) (fun _ _ _ h => h), (hk.block _ (lt_of_heap hal) (fun x => x)).trans hal⟩
  have HRS := Lib.hid hrs
  simp only []
  clear hR hal k0 hrs
  go_enter Tryd.func27, Tryd.ntmps27
  go_upto_region 1 with fail
  obtain ⟨w1, hw1⟩ : ∃ w1, (W.alloc (.cells #[.int .i64 kind, .int .i64 head, .int .i64 who, .int .i64 ra, .int .i64 rb, .int .i64 via] 29)) = w1 := ⟨_, rfl⟩
  simp only [hw1] at HRB ⊢
  clear hw1
  go_wp2_with fail
  go_loopg [8] n (fun g t wy => ∃ (j : Nat), j ≤ n ∧ g = n - j ∧ t = .int .i64 j ∧ Hid (Keeps (fun _ => False) w1 wy) ∧ Hid (∀ (i : Nat) (s : Rl), i < j → rs[i]? = some s → s ≠ ⟨kind, head, who, ra, rb, via⟩))
  case atStart => exact ⟨0, Nat.zero_le _, rfl, rfl, Keeps.refl _ _, fun i s h => absurd h (Nat.not_lt_zero _)⟩
  case round =>
    obtain ⟨j, hj, rfl, rfl, HK, HI⟩ := hrel
    by_cases hlt : j < n
    · have hjI : (j : Int) < (n : Int) := by omega
      have hwj : IntKind.i64.wrap ((j : Int) + 1) = (j : Int) + 1 := IntWalk.i64_in _ (by omega)
      obtain ⟨s, hs⟩ : ∃ s, rs[j]? = some s := ⟨_, List.getElem?_eq_getElem (by rw [HRS.out]; exact hlt)⟩
      obtain ⟨hkW, hrow, hbox⟩ := HRB.out _ HK.out
      have HKW := Lib.hid hkW
      obtain ⟨bb, off, rfl, hbb, hc⟩ := hrow (by rw [HRS.out]; omega)
      obtain ⟨c0, c1, c2, c3, c4, c5⟩ := hc j s hs
      have b0 : wr.cell? ⟨W.heap.size, 0, none⟩ = some (.int .i64 kind) := by rw [cell_of_heap hbox]; rfl
      have b1 : wr.cell? ⟨W.heap.size, 1, none⟩ = some (.int .i64 head) := by rw [cell_of_heap hbox]; rfl
      have b2 : wr.cell? ⟨W.heap.size, 2, none⟩ = some (.int .i64 who) := by rw [cell_of_heap hbox]; rfl
      have b3 : wr.cell? ⟨W.heap.size, 3, none⟩ = some (.int .i64 ra) := by rw [cell_of_heap hbox]; rfl
      have b4 : wr.cell? ⟨W.heap.size, 4, none⟩ = some (.int .i64 rb) := by rw [cell_of_heap hbox]; rfl
      have b5 : wr.cell? ⟨W.heap.size, 5, none⟩ = some (.int .i64 via) := by rw [cell_of_heap hbox]; rfl
      obtain ⟨k', h', w', a', b', v'⟩ := s
      simp only [] at c0 c1 c2 c3 c4 c5
      have HS := Lib.hid hs
      clear hc hrow hbox hkW hs
      by_cases he : (⟨kind, head, who, ra, rb, via⟩ : Rl) = ⟨k', h', w', a', b', v'⟩
      · have hE : ∀ W, (binOp .eql 29 (.agg #[.int .i64 kind, .int .i64 head, .int .i64 who, .int .i64 ra, .int .i64 rb, .int .i64 via]) (.agg #[.int .i64 k', .int .i64 h', .int .i64 w', .int .i64 a', .int .i64 b', .int .i64 v'])).run Tryd.prog W = .ok (.bool true) W := fun W => by rw [rule_eq6, decide_eq_true he]
        have HE2 : Hid (rs[j]? = some (⟨kind, head, who, ra, rb, via⟩ : Rl)) := by rw [he]; exact HS.out
        have HK2 := Lib.hid (HKW.out)
        clear he
        go_upto_region 4 with fail
        go_quiet (fail)
        go_wp2_with fail
        go_ret
        exact ⟨j, rfl, .inr ⟨j, rfl, HE2.out⟩, HKW.out.drewN nq⟩
      · have hE : ∀ W, (binOp .eql 29 (.agg #[.int .i64 kind, .int .i64 head, .int .i64 who, .int .i64 ra, .int .i64 rb, .int .i64 via]) (.agg #[.int .i64 k', .int .i64 h', .int .i64 w', .int .i64 a', .int .i64 b', .int .i64 v'])).run Tryd.prog W = .ok (.bool false) W := fun W => by rw [rule_eq6, decide_eq_false he]
        have HN : Hid (∀ (i : Nat) (s : Rl), i < j + 1 → rs[i]? = some s → s ≠ ⟨kind, head, who, ra, rb, via⟩) := fun i s hi hs e => by
          rcases Nat.lt_or_eq_of_le (Nat.le_of_lt_succ hi) with h2 | h2
          · exact HI.out i s h2 hs e
          · subst h2
            have := HS.out
            rw [hs] at this
            cases this
            exact he e.symm
        clear HI he
        go_upto_region 4 with fail
        go_quiet (fail)
        have HK2 := Lib.hid (HK.out.drewN nq)
        go_wp2_with fail
        go_roundg (n - (j + 1))
        case measure => omega
        case rel => exact ⟨j + 1, by omega, rfl, by go_num, HK2, HN⟩
    · obtain rfl : j = n := by omega
      have hjI : ¬ (j : Int) < (j : Int) := by omega
      have HF : Hid ((⟨kind, head, who, ra, rb, via⟩ : Rl) ∉ rs ∧ Keeps (fun _ => False) W wr) := ⟨fun hm => by
        obtain ⟨i, hi⟩ := List.getElem?_of_mem hm
        have : i < rs.length := by
          rcases Nat.lt_or_ge i rs.length with h | h
          · exact h
          · rw [List.getElem?_eq_none h] at hi; cases hi
        exact HI.out i _ (by rw [HRS.out] at this; exact this) hi rfl, (HRB.out _ HK.out).1⟩
      clear HI HK
      go_wp2_with fail
      go_ret
      exact ⟨-1, rfl, .inl ⟨rfl, HF.out.1⟩, HF.out.2⟩
/-- Is a rule among rules? -/
def CtPost (W : World) (rs : List Rl) (r : Rl) (e : Ending) (W' : World) : Prop := e = .returned (.bool (decide (r ∈ rs))) ∧ Hid (Keeps (fun _ => False) W W')
theorem rcontains_spec {W : World} {ao : Option Addr} {n cap : Nat} {rs : List Rl} (hR : RuleRow W ao rs) (hrs : rs.length = n) (hcap : n ≤ cap) (hn : n ≤ 1000000000) (r : Rl) :
    Calls Tryd.prog 25 #[.slice ao n cap, .agg #[.int .i64 r.kind, .int .i64 r.head, .int .i64 r.who, .int .i64 r.a, .int .i64 r.b, .int .i64 r.via]] W (CtPost W rs r) := by
  obtain ⟨kind, head, who, ra, rb, via⟩ := r
  have hal := (MapKept.heap_alloc W (.cells #[.int .i64 kind, .int .i64 head, .int .i64 who, .int .i64 ra, .int .i64 rb, .int .i64 via] 29)).1
  have k0 : Keeps (fun _ => False) W (W.alloc (.cells #[.int .i64 kind, .int .i64 head, .int .i64 who, .int .i64 ra, .int .i64 rb, .int .i64 via] 29)) := (Keeps.refl _ _).alloc _
  have HC := Lib.hid (rindex_spec (hR.keeps (k0.below (Nat.le_refl _) (fun _ _ x => x)) (fun _ _ _ h => h)) hrs hcap hn ⟨kind, head, who, ra, rb, via⟩)
  have HF : Hid (∀ (x : Int) w', (((x = -1 ∧ (⟨kind, head, who, ra, rb, via⟩ : Rl) ∉ rs) ∨ ∃ i : Nat, x = i ∧ rs[i]? = some (⟨kind, head, who, ra, rb, via⟩ : Rl)) ∧ Keeps (fun _ => False) (W.alloc (.cells #[.int .i64 kind, .int .i64 head, .int .i64 who, .int .i64 ra, .int .i64 rb, .int .i64 via] 29)) w') → CtPost W rs ⟨kind, head, who, ra, rb, via⟩ (.returned (.bool (decide (0 ≤ x)))) w') := fun x w' h => by
    refine ⟨?_, k0.trans h.2⟩
    rcases h.1 with ⟨rfl, h1⟩ | ⟨i, rfl, h1⟩
    · rw [decide_eq_false h1]; rfl
    · rw [decide_eq_true (List.mem_of_getElem? h1), decide_eq_true (by omega)]
  simp only [] at HC ⊢
  clear hR hal k0
  go_enter Tryd.func25, Tryd.ntmps25
  go_wp2_with (go_at_call 27; refine HC.out.mono ?_; rintro e wA ⟨x, rfl, hA⟩)
  have HP := Lib.hid (HF.out _ _ hA.out)
  clear HC HF hA
  go_ret
  exact HP.out
end Go.Proofs.YtaabmkebbnkonaaDoor
