/-
  A row of one number, so many times: the program's (of Go's library).
-/
import Derived.Test.YtloidoekmicloaaOrdRows
import Derived.Laws.CopyOwn
import Derived.Test.YtloidoekmicloaaMA
import Derived.Deep.RegionWith
import Derived.Deep.RegionHeld3
import Derived.BigQuiet
set_option linter.unusedVariables false
set_option linter.unusedSimpArgs false
set_option linter.unnecessarySimpa false
namespace Go.Proofs.Ytloidoekmicloaa
open Go.ChangeShapes Go.WideShapes Go.ChangeAt Go.RowKit Go.Deep
set_option maxRecDepth 100000
set_option maxHeartbeats 3200000
theorem mul64_one (W : World) {k : Nat} (hk : k ≤ 6) : Calls Try.prog 85 #[.int .u64 1, .int .u64 (k : Int)] W fun e W' => e = .returned (.tuple #[.int .u64 0, .int .u64 (k : Int)]) ∧ W = W' := by
  have h : k = 0 ∨ k = 1 ∨ k = 2 ∨ k = 3 ∨ k = 4 ∨ k = 5 ∨ k = 6 := by omega
  rcases h with rfl | rfl | rfl | rfl | rfl | rfl | rfl
  all_goals
    go_enter Try.func85, Try.ntmps85
    go_wp2_with fail
    go_ret2
    exact ⟨rfl, rfl⟩
theorem mul_one64 (W : World) {k : Nat} (hk : k ≤ 6) : Calls Try.prog 72 #[.int .u64 1, .int .u64 (k : Int)] W fun e W' => e = .returned (.tuple #[.int .u64 0, .int .u64 (k : Int)]) ∧ W = W' := by
  have HM := Lib.hid (mul64_one W hk)
  have hw : IntKind.u64.wrap (k : Int) = (k : Int) := IntWalk.u64_in _ (by omega)
  go_enter Try.func72, Try.ntmps72
  go_wp2_with fail
  refine HM.out.mono ?_
  rintro e w' ⟨rfl, rfl⟩
  go_wp2_with fail
  go_ret2
  exact ⟨rfl, rfl⟩
/-- So many of it, and zeros. -/
def repF (n : Nat) : Nat → Int := fun j => if j < n then -1 else 0
theorem rep_splice {n m k : Nat} (h : n + m ≤ k) : splice ((List.range k).map fun j => Value.int .i64 (repF n j)) n (List.replicate m (Value.int .i64 (-1))) = (List.range k).map fun j => Value.int .i64 (repF (n + m) j) := by
  apply List.ext_getElem?
  intro i
  unfold splice
  rw [List.length_replicate]
  rcases Nat.lt_or_ge i n with h1 | h1
  · rw [List.getElem?_append_left (by simp; omega), List.getElem?_take_of_lt h1]
    rw [List.getElem?_map, List.getElem?_map, List.getElem?_range (by omega)]
    unfold repF
    simp only [Option.map_some]
    rw [if_pos h1, if_pos (by omega)]
  · rw [List.getElem?_append_right (by simp; omega)]
    have hl : (List.take n ((List.range k).map fun j => Value.int .i64 (repF n j))).length = n := by simp; omega
    rw [hl]
    rcases Nat.lt_or_ge i (n + m) with h2 | h2
    · rw [List.getElem?_append_left (by simp; omega), List.getElem?_replicate, if_pos (by omega)]
      rw [List.getElem?_map, List.getElem?_range (by omega)]
      unfold repF
      simp only [Option.map_some]
      rw [if_pos h2]
    · rw [List.getElem?_append_right (by simp; omega), List.getElem?_drop, List.length_replicate, show n + m + (i - n - m) = i by omega]
      rcases Nat.lt_or_ge i k with h3 | h3
      · rw [List.getElem?_map, List.getElem?_map, List.getElem?_range h3]
        unfold repF
        simp only [Option.map_some]
        rw [if_neg (by omega), if_neg (by omega)]
      · rw [List.getElem?_eq_none (by simpa using h3), List.getElem?_eq_none (by simpa using h3)]
theorem repeat_spec {W : World} {g : Nat} (hg : W.cell? ⟨g, 0, none⟩ = some (.int .i64 (-1))) {k : Nat} (hk : k ≤ 6) :
    Calls Try.prog 53 #[.slice (some ⟨g, 0, none⟩) 1 1, .int .i64 k] W fun e W' => ∃ b, e = .returned (.slice (some ⟨b, 0, none⟩) k k) ∧ Hid (W.heap.size ≤ b ∧ Keeps (fun _ => False) W W' ∧ IRow W' b k (fun _ => -1)) := by
  obtain ⟨i0, hi0, hz0, hz1, hz2⟩ := info_parts iinfo
  have hszI : (Try.prog.info? 3).map (·.size) = some 1 := by rw [hi0]; exact congrArg some hz1
  have HM := Lib.hid (mul_one64 W hk)
  have hw1 : IntKind.u64.wrap (k : Int) = (k : Int) := IntWalk.u64_in _ (by omega)
  have hw2 : IntKind.i64.wrap (k : Int) = (k : Int) := IntWalk.i64_in _ (by omega)
  have hk0 : ¬ (k : Int) < 0 := by omega
  have hkm : ¬ ((9223372036854775807 : Int) < (k : Int)) := by omega
  have hlt := lt_of_cell hg
  have HGC := Lib.hid hg
  go_enter Try.func53, Try.ntmps53
  go_wp2_with fail
  refine HM.out.mono ?_
  rintro e w' ⟨rfl, rfl⟩
  clear HM
  go_wp2_with (at_make; refine wpList_make_full _ rfl _ _ 27 rfl W.heap.size 3 i0 _ 1 Try.underlying27 hi0 hz0 hz1 .i64 .i64 _ _ k rfl rfl rfl rfl (by rw [hz2]; omega) (by unfold maxLen; omega) (Nat.le_refl _) ?_)
  intro w3 hown hgrow
  have k3 : Keeps (fun _ => False) W w3 := (keeps_grown hgrow).mono (fun _ _ h => by cases h)
  have hrow : IRow w3 W.heap.size k (repF 0) := by
    have e := block_of_made (z := #[Value.int .i64 0]) (size := 1) (n := k) (by rw [Nat.mul_one]; exact hown)
    have e2 := imade k
    unfold IRow
    rw [e]
    have e3 : irow (repF 0) k = irow (fun _ => 0) k := irow_congr (fun j _ => by unfold repF; rw [if_neg (by omega)])
    rw [e3]
    exact congrArg (fun c => some (Obj.cells c _ _)) e2
  obtain ⟨b, hb⟩ : ∃ b, W.heap.size = b := ⟨_, rfl⟩
  have HK3 := Lib.hid k3
  have HBW := Lib.hid hb
  have hm3 : w3.heap[W.heap.size]? = some (.cells ((List.range k).map fun j => Value.int .i64 (repF 0 j)).toArray 3 (0, 0)) := hrow
  obtain ⟨m1, hm1⟩ : ∃ m, Nat.min 1 k = m := ⟨_, rfl⟩
  have hm1' : m1 ≤ 1 ∧ m1 ≤ k ∧ (0 < k → 0 < m1) := by
    rw [← hm1]
    exact ⟨Nat.min_le_left _ _, Nat.min_le_right _ _, fun h => by show 0 < min 1 k; omega⟩
  obtain ⟨cs, hcs⟩ : ∃ cs, cs = List.replicate m1 (Value.int .i64 (-1)) := ⟨_, rfl⟩
  have HCS := Lib.hid hcs
  have hcl : cs.length = m1 := by rw [hcs, List.length_replicate]
  have hmin : cs.length = Nat.min 1 k := by rw [hcl, hm1]
  have hpos : 0 < cs.length → (some ⟨W.heap.size, 0, none⟩ : Option Addr) = some ⟨W.heap.size, 0, none⟩ ∧ ∃ ad, (some ⟨g, 0, none⟩ : Option Addr) = some ad ∧ ∀ j v, cs[j]? = some v → w3.cell? (ad.add j) = some v := fun h0 => by
    refine ⟨rfl, _, rfl, fun j v hj => ?_⟩
    rw [hcs, List.getElem?_replicate] at hj
    rw [Addr.add_lit]
    split at hj
    · obtain rfl : j = 0 := by omega
      obtain rfl := Option.some.inj hj
      exact (HK3.out.cell (p := ⟨g, 0, none⟩) hlt (fun x => x)).trans HGC.out
    · cases hj
  have h1c : ∀ v ∈ cs, v.oneCell' = true := fun v hv => by
    rw [hcs] at hv
    rw [List.eq_of_mem_replicate hv]
    rfl
  have hfit : 0 + cs.length ≤ ((List.range k).map fun j => Value.int .i64 (repF 0 j)).length := by rw [hcl]; simp; exact hm1'.2.1
  have hbel : Below W.heap.size W w3 := HK3.out.below (Nat.le_refl _) (fun _ _ x => x)
  have HSP : Hid (splice ((List.range k).map fun j => Value.int .i64 (repF 0 j)) 0 cs = (List.range k).map fun j => Value.int .i64 (repF (0 + m1) j)) := by
    show _ = _
    rw [HCS.out]
    exact rep_splice (by rw [Nat.zero_add]; exact hm1'.2.1)
  clear hown hgrow k3 hrow hcs hk0
  go_wp2_with ((with_reducible show wpList _ _ _ _ _ _); refine wpList_copy_splice rfl (.tmp 31) (.tmp 32) 27 27 rfl 3 Try.underlying27 hszI _ _ _ _ _ _ rfl rfl W.heap.size 0 _ 3 hm3 cs hmin hpos hfit h1c W.heap.size W hbel (Nat.le_refl _) ?_)
  intro w4 hg4 hb4
  have HR4 : Hid (Keeps (fun _ => False) W w4 ∧ IRow w4 b k (repF m1)) := by
    have e := hg4.out
    rw [HSP.out, Nat.zero_add] at e
    exact ⟨⟨hb4.os, hb4.tape, hb4.output, hb4.size, fun q hq _ => hb4.block q (by omega)⟩, e⟩
  clear hg4 hb4 HSP hbel hfit h1c hpos hmin hcl hm3 HCS HK3 hm1
  go_wp2_with fail
  go_loopg [8] (k - m1) (fun gg nv wx => ∃ n : Nat, n ≤ k ∧ gg = k - n ∧ nv = .int .i64 n ∧ (0 < k → 0 < n) ∧ Hid (Keeps (fun _ => False) W wx ∧ IRow wx b k (repF n)))
  case atStart => exact ⟨m1, hm1'.2.1, rfl, rfl, hm1'.2.2, HR4⟩
  case round =>
    clear HR4 hm1'
    obtain ⟨n, hn, rfl, rfl, hpn, HW⟩ := hrel
    by_cases hlt2 : n < k
    · have hnI : (n : Int) < (k : Int) := by omega
      have hn0 : 0 < n := hpn (by omega)
      have hn1 : (0 : Int) ≤ (n : Int) := by omega
      have hn2 : (n : Int) ≤ (k : Int) := by omega
      have hne : ¬ (n = k) := by omega
      have hne2 : ¬ (k = n) := by omega
      obtain ⟨m, hm⟩ : ∃ m, Nat.min n (k - n) = m := ⟨_, rfl⟩
      have hm' : m ≤ n ∧ m ≤ k - n ∧ 0 < m := by
        rw [← hm]
        exact ⟨Nat.min_le_left _ _, Nat.min_le_right _ _, by show 0 < min n (k - n); omega⟩
      obtain ⟨cs, hcs⟩ : ∃ cs, cs = List.replicate m (Value.int .i64 (-1)) := ⟨_, rfl⟩
      have hcl : cs.length = m := by rw [hcs, List.length_replicate]
      have hmin : cs.length = Nat.min n (k - n) := by rw [hcl, hm]
      have hm3 : wr.drew.heap[b]? = some (.cells ((List.range k).map fun j => Value.int .i64 (repF n j)).toArray 3 (0, 0)) := HW.out.2
      have hpos : 0 < cs.length → (some ⟨b, n, none⟩ : Option Addr) = some ⟨b, n, none⟩ ∧ ∃ ad, (some ⟨b, 0, none⟩ : Option Addr) = some ad ∧ ∀ j v, cs[j]? = some v → wr.drew.cell? (ad.add j) = some v := fun h0 => by
        refine ⟨rfl, _, rfl, fun j v hj => ?_⟩
        rw [hcs, List.getElem?_replicate] at hj
        rw [Addr.add_lit]
        split at hj
        · obtain rfl := Option.some.inj hj
          have hc := HW.out.2.cell (j := j) (by omega)
          have e : repF n j = -1 := by unfold repF; rw [if_pos (by omega)]
          rw [e] at hc
          rw [Nat.zero_add]
          exact hc
        · cases hj
      have h1c : ∀ v ∈ cs, v.oneCell' = true := fun v hv => by
        rw [hcs] at hv
        rw [List.eq_of_mem_replicate hv]
        rfl
      have hfit : n + cs.length ≤ ((List.range k).map fun j => Value.int .i64 (repF n j)).length := by rw [hcl]; simp; omega
      have hbel : Below b wr.drew wr.drew := ⟨rfl, rfl, rfl, Nat.le_refl _, fun _ _ => rfl⟩
      have HSP : Hid (splice ((List.range k).map fun j => Value.int .i64 (repF n j)) n cs = (List.range k).map fun j => Value.int .i64 (repF (n + m) j)) := by
        show _ = _
        rw [hcs]
        exact rep_splice (by omega)
      clear hcs
      go_upto_region 9 with fail
      refine wp_region_noPanic ?_
      refine wp_region_held_drew (S := (fun _ => True)) (by kernel_rfl) trivial (fun hHeld => ?_)
      refine wpAnyH_take_at (i := 0) (v := ?v0a) rfl (by kernel_rfl) (by kernel_rfl) (by kernel_rfl) (fun _ _ _ h => h) (Or.inl ⟨by rfl, ?y0a⟩) hHeld ?r0a
      case y0a => (intro w hSw; (try dsimp only at hSw); go_simp; first | done | with_reducible rfl)
      (try simp only [Act.put, List.setIfInBounds_toArray, List.set_cons_zero, List.set_cons_succ])
      refine wpAnyH_take_at (i := 1) (v := ?v1a) rfl (by kernel_rfl) (by kernel_rfl) (by kernel_rfl) (fun _ _ _ h => h) (Or.inl ⟨by rfl, ?y1a⟩) hHeld ?r1a
      case y1a => (intro w hSw; (try dsimp only at hSw); go_simp; first | done | with_reducible rfl)
      (try simp only [Act.put, List.setIfInBounds_toArray, List.set_cons_zero, List.set_cons_succ])
      refine wpAnyH_take_at (i := 2) (v := ?v2a) rfl (by kernel_rfl) (by kernel_rfl) (by kernel_rfl) (fun _ _ _ h => h) (Or.inl ⟨by rfl, ?y2a⟩) hHeld ?r2a
      case y2a => (intro w hSw; (try dsimp only at hSw); go_simp; first | done | with_reducible rfl)
      (try simp only [Act.put, List.setIfInBounds_toArray, List.set_cons_zero, List.set_cons_succ])
      refine wpAnyH_take_at (i := 3) (v := ?v3a) rfl (by kernel_rfl) (by kernel_rfl) (by kernel_rfl) (fun _ _ _ h => h) (Or.inl ⟨by rfl, ?y3a⟩) hHeld ?r3a
      case y3a => (intro w hSw; (try dsimp only at hSw); go_simp; first | done | with_reducible rfl)
      (try simp only [Act.put, List.setIfInBounds_toArray, List.set_cons_zero, List.set_cons_succ])
      refine wpAnyH_take_at (i := 4) (v := ?v4a) rfl (by kernel_rfl) (by kernel_rfl) (by kernel_rfl) (fun _ _ _ h => h) (Or.inl ⟨by rfl, ?y4a⟩) hHeld ?r4a
      case y4a => (intro w hSw; (try dsimp only at hSw); go_simp; first | done | with_reducible rfl)
      (try simp only [Act.put, List.setIfInBounds_toArray, List.set_cons_zero, List.set_cons_succ])
      refine wpAnyH_take_at (i := 5) (v := ?v5a) rfl (by kernel_rfl) (by kernel_rfl) (by kernel_rfl) (fun _ _ _ h => h) (Or.inl ⟨by rfl, ?y5a⟩) hHeld ?r5a
      case y5a => (intro w hSw; (try dsimp only at hSw); go_simp; first | done | with_reducible rfl)
      (try simp only [Act.put, List.setIfInBounds_toArray, List.set_cons_zero, List.set_cons_succ])
      refine wpAnyH_take_at (i := 6) (v := ?v6a) rfl (by kernel_rfl) (by kernel_rfl) (by kernel_rfl) (fun _ _ _ h => h) (Or.inl ⟨by rfl, ?y6a⟩) hHeld ?r6a
      case y6a => (intro w hSw; (try dsimp only at hSw); go_simp; first | done | with_reducible rfl)
      (try simp only [Act.put, List.setIfInBounds_toArray, List.set_cons_zero, List.set_cons_succ])
      refine wpAnyH_one (i := 7) (by kernel_rfl) rfl (fun KK hK => ?_)
      refine step_copy_splice rfl (.tmp 41) (.tmp 44) 27 27 rfl 3 Try.underlying27 hszI _ _ _ _ _ _ rfl rfl b n _ 3 hm3 cs hmin hpos hfit h1c b wr.drew hbel (Nat.le_refl _) ?_
      intro w5 hg5 hb5
      have HN : Hid (Keeps (fun _ => False) W w5 ∧ IRow w5 b k (repF (n + m))) := by
        have e := hg5.out
        rw [HSP.out] at e
        refine ⟨?_, e⟩
        have hk1 := HW.out.1.drew
        exact ⟨hb5.os.trans hk1.os, hb5.tape.trans hk1.tape, hb5.output.trans hk1.output, Nat.le_trans hk1.size hb5.size, fun q hq hx => (hb5.block q (by have := HBW.out; omega)).trans (hk1.block q hq hx)⟩
      rw [hcl]
      refine hK.out _ _ ?s7a (fun hHeld => ?_)
      case s7a => exact trivial
      clear hK KK
      (try simp only [Act.put, List.setIfInBounds_toArray, List.set_cons_zero, List.set_cons_succ])
      have hwnm : IntKind.i64.wrap ((n : Int) + (m : Int)) = ((n + m : Nat) : Int) := by rw [IntWalk.i64_in _ (by omega)]; rfl
      refine wpAnyH_take_at (i := 8) (v := ?v8a) rfl (by kernel_rfl) (by kernel_rfl) (by kernel_rfl) (fun _ _ _ h => h) (Or.inl ⟨by rfl, ?y8a⟩) hHeld ?r8a
      case y8a => (intro w hSw; (try dsimp only at hSw); go_simp; first | done | with_reducible rfl)
      (try simp only [Act.put, List.setIfInBounds_toArray, List.set_cons_zero, List.set_cons_succ])
      refine wpAnyH_take_at (i := 9) (v := ?v9a) rfl (by kernel_rfl) (by kernel_rfl) (by kernel_rfl) (fun _ _ _ h => h) (Or.inl ⟨by rfl, ?y9a⟩) hHeld ?r9a
      case y9a => (intro w hSw; (try dsimp only at hSw); go_simp; first | done | with_reducible rfl)
      (try simp only [Act.put, List.setIfInBounds_toArray, List.set_cons_zero, List.set_cons_succ])
      refine wpAnyH_done (by kernel_rfl) ?_ _
      refine NoPanic.normal ?_
      clear hHeld hg5 hb5 hbel hfit h1c hpos hmin hcl hm3 HW HSP
      go_wp2_with fail
      go_roundg (k - (n + m))
      case measure => omega
      case rel => exact ⟨n + m, by omega, rfl, by go_num, fun _ => by omega, HN⟩
    · obtain rfl : n = k := by omega
      have hnI : ¬ (n : Int) < (n : Int) := by omega
      have HE : Hid (b ≤ b ∧ Keeps (fun _ => False) W wr ∧ IRow wr b n (fun _ => -1)) := ⟨Nat.le_refl _, HW.out.1, HW.out.2.congr (fun j hj => by unfold repF; rw [if_pos hj])⟩
      clear HW
      go_wp2_with fail
      go_ret
      exact ⟨b, rfl, HE⟩
end Go.Proofs.Ytloidoekmicloaa
