/-
  Who is in which role of one model and not of another: the law's pairs.
-/
import Derived.Test.YtaabmkebbnkonaaDoorLiveSame
import Derived.Test.YtaabmkebbnkonaaDoorRefEval
set_option linter.unusedVariables false
set_option linter.unusedSimpArgs false
set_option linter.unnecessarySimpa false
namespace Go.Proofs.YtaabmkebbnkonaaDoor
open Go.ChangeShapes Go.WideShapes Go.ChangeAt Go.RowKit Go.Deep SetPlain
theorem listTo_next (p : Nat → Bool) (j : Nat) : listTo p (j + 1) = listTo p j ++ (if p j = true then [j] else []) := by
  show (if p j then listTo p j ++ [j] else listTo p j) = _
  cases p j <;> simp
theorem pairs_next (A B : Nat → Nat → Bool) (P i j : Nat) : diffTo A B P i ++ diffRow B i (listTo (A i) (j + 1)) = diffTo A B P i ++ diffRow B i (listTo (A i) j) ++ (if A i j = true ∧ B i j = false then [(i, j)] else []) := by
  rw [listTo_next, List.append_assoc]
  congr 1
  cases h : A i j with
  | false => rw [if_neg (by decide), List.append_nil, if_neg (by simp), List.append_nil]
  | true =>
    rw [if_pos rfl, diffRow_snoc]
    cases h2 : B i j with
    | false => rw [if_neg (by decide), if_pos ⟨rfl, rfl⟩]
    | true => rw [if_pos rfl, if_neg (by simp)]
set_option maxRecDepth 100000
set_option maxHeartbeats 6400000
theorem pairs_spec {W : World} {ba bb : Nat} {aoa aob : Option Addr} {ca cb : Nat} {ra rb : Rows} {P K N : Nat} {A B : Nat → Nat → Bool} (ha : RefM W ba aoa ca ra P K N A) (hb : RefM W bb aob cb rb P K N B) (hP : P ≤ 64) (hN : N ≤ 4096) :
    Calls Tryd.prog 16 #[.pointer (some ⟨ba, 0, none⟩), .pointer (some ⟨bb, 0, none⟩)] W fun e W' => ∃ u, e = .returned u ∧ Hid (OwnP W.heap.size W' u (diffTo A B P N) ∧ Keeps (fun _ => False) W W') := by
  obtain ⟨i0, hi0, hz0, hz1, hz2⟩ := info_parts pairInfo
  have HA := Lib.hid ha
  have HB := Lib.hid hb
  obtain ⟨e0, e1, e2⟩ := ha.cells
  have HOWN0 : Hid (OwnP W.heap.size W (.slice none 0 0) (diffTo A B P 0) ∧ Keeps (fun _ => False) W W) := ⟨World.ownsRow_nil _ _ _ _, Keeps.refl _ _⟩
  clear ha hb
  go_enter Tryd.func16, Tryd.ntmps16
  go_wp2_with fail
  clear e0 e1 e2
  go_loopg [5, 13] N (fun g ov t wy => ∃ i, i ≤ N ∧ g = N - i ∧ t = .int .i64 i ∧ Hid (OwnP W.heap.size wy ov (diffTo A B P i) ∧ Keeps (fun _ => False) W wy))
  case atStart => exact ⟨0, Nat.zero_le _, rfl, rfl, HOWN0.out⟩
  case round =>
    clear HOWN0
    obtain ⟨i, hi, rfl, rfl, HI⟩ := hrel
    by_cases hlt : i < N
    · have hiI : (i : Int) < (N : Int) := by omega
      have hwi : IntKind.i64.wrap ((i : Int) + 1) = (i : Int) + 1 := IntWalk.i64_in _ (by omega)
      obtain ⟨e0, _, _⟩ := (HA.out.keeps HI.out.2).cells
      have HO4 : Hid (OwnP W.heap.size wr u5 (diffTo A B P i ++ diffRow B i (listTo (A i) 0)) ∧ Keeps (fun _ => False) W wr) := by
        rw [show diffRow B i (listTo (A i) 0) = [] from rfl, List.append_nil]
        exact HI.out
      clear HI
      go_wp2_with fail
      clear e0
      go_loopg [5, 20] P (fun g ov t wy => ∃ j, j ≤ P ∧ g = P - j ∧ t = .int .i64 j ∧ Hid (OwnP W.heap.size wy ov (diffTo A B P i ++ diffRow B i (listTo (A i) j)) ∧ Keeps (fun _ => False) W wy))
      case atStart => exact ⟨0, Nat.zero_le _, rfl, rfl, HO4.out⟩
      case round =>
        clear HO4
        obtain ⟨j, hj, rfl, rfl, HI⟩ := hrel
        by_cases hlt2 : j < P
        · have hjI : (j : Int) < (P : Int) := by omega
          have hwj : IntKind.i64.wrap ((j : Int) + 1) = (j : Int) + 1 := IntWalk.i64_in _ (by omega)
          have HNX := Lib.hid (pairs_next A B P i j)
          obtain ⟨av, hav⟩ : ∃ av, A i j = av := ⟨_, rfl⟩
          obtain ⟨bv, hbv⟩ : ∃ bv, B i j = bv := ⟨_, rfl⟩
          have HHA : Hid (Calls Tryd.prog 13 #[.pointer (some ⟨ba, 0, none⟩), .int .i64 i, .int .i64 j] wr fun e W' => e = .returned (.bool av) ∧ wr = W') := by
            refine (rhas_spec (HA.out.keeps HI.out.2) (i : Int) (j : Int)).mono ?_
            rintro e W' ⟨rfl, rfl⟩
            exact ⟨by rw [hasB_in hlt hlt2, hav], rfl⟩
          have HHB : Hid (Calls Tryd.prog 13 #[.pointer (some ⟨bb, 0, none⟩), .int .i64 i, .int .i64 j] wr fun e W' => e = .returned (.bool bv) ∧ wr = W') := by
            refine (rhas_spec (HB.out.keeps HI.out.2) (i : Int) (j : Int)).mono ?_
            rintro e W' ⟨rfl, rfl⟩
            exact ⟨by rw [hasB_in hlt hlt2, hbv], rfl⟩
          rw [hav, hbv] at HNX
          clear hav hbv
          cases av with
          | false =>
            have HN : Hid (OwnP W.heap.size wr u5 (diffTo A B P i ++ diffRow B i (listTo (A i) (j + 1))) ∧ Keeps (fun _ => False) W wr) := by
              rw [HNX.out, if_neg (by simp), List.append_nil]
              exact HI.out
            clear HI HNX HHB
            go_wp2_with (go_at_call 13; refine HHA.out.mono ?_; rintro e W' ⟨rfl, rfl⟩)
            go_roundg (P - (j + 1))
            case measure => omega
            case rel => exact ⟨j + 1, by omega, rfl, by go_num, HN⟩
          | true =>
            cases bv with
            | true =>
              have HN : Hid (OwnP W.heap.size wr u5 (diffTo A B P i ++ diffRow B i (listTo (A i) (j + 1))) ∧ Keeps (fun _ => False) W wr) := by
                rw [HNX.out, if_neg (by simp), List.append_nil]
                exact HI.out
              clear HI HNX
              go_wp2_with fail
              refine HHA.out.mono ?_
              rintro e W' ⟨rfl, rfl⟩
              clear HHA
              go_wp2_with fail
              refine HHB.out.mono ?_
              rintro e W' ⟨rfl, rfl⟩
              clear HHB
              go_wp2_with fail
              go_roundg (P - (j + 1))
              case measure => omega
              case rel => exact ⟨j + 1, by omega, rfl, by go_num, HN⟩
            | false =>
              have hHI := HI.out.1
              obtain ⟨ol, hol⟩ : ∃ ol, (diffTo A B P i ++ diffRow B i (listTo (A i) j)).length = ol := ⟨_, rfl⟩
              have hol9 : ol ≤ 300000 := by
                rw [← hol, List.length_append]
                have a1 := diffTo_len A B P i
                have a2 := diffRow_len A B P i (listTo (A i) j)
                have a3 : i * P ≤ 4096 * 64 := Nat.mul_le_mul (by omega) hP
                have a4 : (listTo (A i) j).length ≤ 64 := by rw [listTo_len]; exact Nat.le_trans (cnt_le _ _) (by omega)
                omega
              have HOW : Hid (wr.ownsRow W.heap.size 22 2 u5 ol (pcs (diffTo A B P i ++ diffRow B i (listTo (A i) j)))) := by
                have := hHI
                unfold OwnP at this
                rw [hol] at this
                exact this
              have HOL := Lib.hid hol
              have HII := Lib.hid HI.out.2
              have hsz : W.heap.size ≤ wr.heap.size := HI.out.2.size
              clear hHI hol HI
              go_upto_region 9 with fail
              refine HHA.out.mono ?_
              rintro e W' ⟨rfl, rfl⟩
              clear HHA
              go_upto_region 9 with fail
              refine HHB.out.mono ?_
              rintro e W' ⟨rfl, rfl⟩
              clear HHB
              go_upto_region 9 with fail
              go_wp2_with (at_builtin; refine wpList_append_own _ rfl _ _ 32 rfl W.heap.size 22 i0 _ 2 16 Tryd.underlying32 hi0 hz0 hz1 hz2 rfl (by decide) _ _ _ rfl (HOW.out.alloc _) ⟨wr.heap.size, 0, none⟩ 1 1 [.int .i64 (i : Int), .int .i64 (j : Int)] rfl rfl (cells_new wr _ _) (by intro u hu; simp only [List.mem_cons, List.not_mem_nil, or_false] at hu; rcases hu with rfl | rfl <;> rfl) (by unfold maxLen; omega) (by omega) (by simp; omega) ?_)
              intro v2 w6 hown2 hgrow _
              obtain ⟨ao2, cap2, hv2, _, _, _, _⟩ := own_form hown2
              subst hv2
              have k1 : Keeps (fun _ => False) wr (wr.alloc (.cells #[.int .i64 (i : Int), .int .i64 (j : Int)] 22)) := (Keeps.refl _ _).alloc _
              have k2 := keeps_grown hgrow
              have hob := own_block HOW.out
              have HN : Hid (OwnP W.heap.size w6 (.slice ao2 (ol + 1) cap2) (diffTo A B P i ++ diffRow B i (listTo (A i) (j + 1))) ∧ Keeps (fun _ => False) W w6) := by
                refine ⟨?_, (HII.out.trans k1).trans_new k2 (fun q hq e => by have := hob _ e; omega)⟩
                rw [HNX.out, if_pos (by simp)]
                show w6.ownsRow _ _ _ _ (_ ++ [(i, j)]).length (pcs (_ ++ [(i, j)]))
                rw [pcs_append, List.length_append, HOL.out]
                exact hown2
              clear HOW HOL HII HNX hown2 hgrow k1 k2 hob hsz
              go_wp2_with fail
              go_roundg (P - (j + 1))
              case measure => omega
              case rel => exact ⟨j + 1, by omega, rfl, by go_num, HN⟩
        · have hjE : j = P := by omega
          have hjI : ¬ (j : Int) < (P : Int) := by omega
          have HN : Hid (OwnP W.heap.size wr u5 (diffTo A B P (i + 1)) ∧ Keeps (fun _ => False) W wr) := by
            have h1 := HI.out
            rw [hjE] at h1
            exact h1
          clear HI
          go_wp2_with fail
          go_roundg (N - (i + 1))
          case measure => omega
          case rel => exact ⟨i + 1, by omega, rfl, by go_num, HN⟩
    · have hiE : i = N := by omega
      have hiI : ¬ (i : Int) < (N : Int) := by omega
      have HN : Hid (OwnP W.heap.size wr u5 (diffTo A B P N) ∧ Keeps (fun _ => False) W wr) := by
        have h1 := HI.out
        rw [hiE] at h1
        exact h1
      clear HI HA HB
      go_wp2_with fail
      go_ret
      exact ⟨_, rfl, HN⟩
end Go.Proofs.YtaabmkebbnkonaaDoor
