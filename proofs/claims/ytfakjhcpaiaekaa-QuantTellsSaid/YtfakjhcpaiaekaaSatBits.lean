/-
  The numbers at which a row is true; what is never true: the program's.
-/
import Derived.Test.YtfakjhcpaiaekaaPlayState
set_option linter.unusedVariables false
set_option linter.unusedSimpArgs false
set_option linter.unnecessarySimpa false
namespace Go.Proofs.Ytfakjhcpaiaekaa
open Go.ChangeShapes Go.WideShapes Go.ChangeAt Go.RowKit Go.Deep NodePlain
theorem uinfo64 : (Try.prog.info? 34).map (fun i => (i.zero, i.size, i.bytes)) = some (some (.int .u64 0), 1, 8) := by kernel_rfl
/-- The numbers below one at which a row is true. -/
def bitsR (R : Nat → Bool) (m : Nat) : List Nat := (List.range m).filter R
theorem bitsR_succ (R : Nat → Bool) (m : Nat) : bitsR R (m + 1) = if R m then bitsR R m ++ [m] else bitsR R m := by
  unfold bitsR
  rw [List.range_succ, List.filter_append]
  cases h : R m <;> simp [h]
theorem bitsR_len (R : Nat → Bool) (m : Nat) : (bitsR R m).length ≤ m := by
  unfold bitsR
  exact Nat.le_trans (List.length_filter_le _ _) (by simp)
def uCells (l : List Nat) : List Value := l.map fun j : Nat => Value.int .u64 (j : Int)
theorem uCells_snoc (l : List Nat) (x : Nat) : uCells (l ++ [x]) = uCells l ++ [.int .u64 (x : Int)] := by simp [uCells]
/-- A row of numbers of the program's own. -/
def OwnU (w W : World) (v : Value) (l : List Nat) : Prop := W.ownsRow w.heap.size 34 1 v l.length (uCells l)
set_option maxRecDepth 100000
set_option maxHeartbeats 3200000
theorem sbits_spec {W : World} {b m : Nat} {R : Nat → Bool} (h : RowAt W b m R) (hm : m ≤ 1000) :
    Calls Try.prog 10 #[.slice (some ⟨b, 0, none⟩) m m] W fun e W' => ∃ v, e = .returned v ∧ Hid (Keeps (fun _ => False) W W' ∧ OwnU W W' v (bitsR R m)) := by
  obtain ⟨i0, hi0, hz0, hz1, hz2⟩ := info_parts uinfo64
  have HR := Lib.hid h
  have hlt := lt_of_heap h
  clear h
  go_enter Try.func10, Try.ntmps10
  go_wp2_with fail
  go_loopg [3, 8] m (fun g lv ts wx => ∃ i, i ≤ m ∧ g = m - i ∧ ts = .int .i64 i ∧ Hid (Keeps (fun _ => False) W wx ∧ OwnU W wx lv (bitsR R i)))
  case atStart => exact ⟨0, Nat.zero_le _, rfl, rfl, Keeps.refl _ _, World.ownsRow_nil _ _ _ _⟩
  case round =>
    obtain ⟨i, hi, rfl, rfl, HW⟩ := hrel
    by_cases hlt2 : i < m
    · have hiI : (i : Int) < (m : Int) := by omega
      have hc := (HR.out.keeps HW.out.1 (fun x => x)).cell hlt2
      have hsz := HW.out.1.size
      have hwu : IntKind.u64.wrap (i : Int) = (i : Int) := IntWalk.u64_in _ (by omega)
      cases hR : R i with
      | true =>
        rw [hR] at hc
        have hbl := bitsR_len R i
        have HB : Hid (bitsR R (i + 1) = bitsR R i ++ [i]) := by show _ = _; rw [bitsR_succ, if_pos hR]
        have HOW : Hid (wr.ownsRow W.heap.size 34 1 u3 (bitsR R i).length (uCells (bitsR R i))) := HW.out.2
        have HKW := Lib.hid HW.out.1
        clear HW hR
        go_wp2_with (at_builtin; refine wpList_append_own _ rfl _ _ 31 rfl W.heap.size 34 i0 _ 1 8 Try.underlying31 hi0 hz0 hz1 hz2 rfl (by decide) _ _ _ rfl (HOW.out.alloc _) ⟨wr.heap.size, 0, none⟩ 1 1 [.int .u64 (i : Int)] rfl rfl (cells_new wr _ _) (by intro u hu; simp only [List.mem_cons, List.not_mem_nil, or_false] at hu; subst hu; rfl) (by unfold maxLen; omega) (by omega) (by simp; omega) ?_)
        intro v2 w6 hown2 hgrow _
        have HN : Hid (Keeps (fun _ => False) W w6 ∧ OwnU W w6 v2 (bitsR R (i + 1))) := by
          refine ⟨?_, ?_⟩
          · exact (HKW.out.trans ((Keeps.refl (fun _ => False) wr).alloc _)).trans_new (keeps_grown hgrow) (fun q hq e => by have := own_block HOW.out q e; omega)
          · show w6.ownsRow _ _ _ _ (bitsR R (i + 1)).length (uCells (bitsR R (i + 1)))
            rw [HB.out, uCells_snoc, List.length_append]
            exact hown2
        clear hown2 hgrow HOW HKW HB
        go_wp2_with fail
        go_roundg (m - (i + 1))
        case measure => omega
        case rel => exact ⟨i + 1, by omega, rfl, by go_num, HN.out⟩
      | false =>
        rw [hR] at hc
        have HN : Hid (Keeps (fun _ => False) W wr ∧ OwnU W wr u3 (bitsR R (i + 1))) := by
          rw [bitsR_succ, if_neg (by rw [hR]; decide)]
          exact HW.out
        clear HW hR
        go_wp2_with fail
        go_roundg (m - (i + 1))
        case measure => omega
        case rel => exact ⟨i + 1, by omega, rfl, by go_num, HN.out⟩
    · obtain rfl : m = i := by omega
      have hiI : ¬ (m : Int) < (m : Int) := by omega
      go_wp2_with fail
      go_ret
      exact ⟨_, rfl, HW.out⟩
theorem never_spec {W : World} {db : Nat} {V B : Int} {st : St} {calls : Int} {Fp : Nat → Prop} (h : Bd W db V B st calls Fp) (hn : st.n ≤ 1000000000) (f : Int) (hf : f ≤ 9223372036854775807) :
    Calls Try.prog 14 #[.pointer (some ⟨db, 0, none⟩), .int .i64 f] W fun e W' => e = .returned (.bool (decide (f = 0) || !isN st.n f)) ∧ W = W' := by
  have HB := Lib.hid (bis_spec h hn f hf)
  clear h
  go_enter Try.func14, Try.ntmps14
  by_cases h0 : f = 0
  · subst h0
    go_wp2_with fail
    go_ret
    exact ⟨rfl, rfl⟩
  · have h0d : decide (f = 0) = false := decide_eq_false h0
    go_wp2_with fail
    refine HB.out.mono ?_
    rintro e w' ⟨rfl, rfl⟩
    go_wp2_with fail
    go_ret
    refine ⟨?_, rfl⟩
    have h1 : (f == 0) = false := by simpa using h0
    show Ending.returned (.bool (f == 0 || !isN st.n f)) = _
    rw [h1, h0d]
end Go.Proofs.Ytfakjhcpaiaekaa
