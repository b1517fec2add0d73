/-
  A node's parts, and its variable: the program's.
-/
import Derived.Test.YtfakjhcpaiaekaaQuantState
import Derived.Test.YtfakjhcpaiaekaaSatBits
set_option linter.unusedVariables false
set_option linter.unusedSimpArgs false
set_option linter.unnecessarySimpa false
namespace Go.Proofs.Ytfakjhcpaiaekaa
open Go.ChangeShapes Go.WideShapes Go.ChangeAt Go.RowKit Go.Deep NodePlain
set_option maxRecDepth 100000
set_option maxHeartbeats 3200000
/-- A node's parts as a value. -/
def partV (L : Nat → Nd) (n : Nat) (V f : Int) : Value := .tuple #[.agg #[.int .i64 ((getN L n f).getD (0, 0, 0)).1, .int .i64 ((getN L n f).getD (0, 0, 0)).2.1, .int .i64 ((getN L n f).getD (0, 0, 0)).2.2], .int .i64 (match getN L n f with | none => V | some p => p.1)]
theorem part_spec {W : World} {db : Nat} {V B : Int} {st : St} {calls : Int} {Fp : Nat → Prop} (h : Bd W db V B st calls Fp) (hn : st.n ≤ 1000000000) (f : Int) (hf0 : -9223372036854775808 ≤ f) (hf : f ≤ 9223372036854775807) :
    Calls Try.prog 48 #[.pointer (some ⟨db, 0, none⟩), .int .i64 f] W fun e W' => e = .returned (partV st.L st.n V f) ∧ Keeps (fun _ => False) W W' := by
  have HM : Hid (∀ W', Keeps (fun _ => False) W W' → Calls Try.prog 56 #[.pointer (some ⟨db, 0, none⟩), .int .i64 f] W' fun e W2 => e = .returned (.tuple #[.agg #[.int .i64 ((getN st.L st.n f).getD (0, 0, 0)).1, .int .i64 ((getN st.L st.n f).getD (0, 0, 0)).2.1, .int .i64 ((getN st.L st.n f).getD (0, 0, 0)).2.2], .bool (getN st.L st.n f).isSome]) ∧ Below W'.heap.size W' W2) := fun W' hk => bmade_spec (h.quiet hk) hn f hf0 hf
  have HV : Hid (∀ W', Keeps (fun _ => False) W W' → Calls Try.prog 50 #[.pointer (some ⟨db, 0, none⟩)] W' fun e w' => e = .returned (.int .i64 V) ∧ W' = w') := fun W' hk => bvars_spec (h.quiet hk)
  clear h
  unfold partV
  rcases hg : getN st.L st.n f with _ | ⟨u, lo, hi⟩
  · rw [hg] at HM
    clear hg
    have hal := (MapKept.heap_alloc W (.cells #[.int .i64 0, .int .i64 0, .int .i64 0] 82)).1
    have hk0 : Keeps (fun _ => False) W (W.alloc (.cells #[.int .i64 0, .int .i64 0, .int .i64 0] 82)) := (Keeps.refl _ _).alloc _
    have HM1 := Lib.hid (HM.out _ hk0)
    have HK0 := Lib.hid hk0
    have HA := Lib.hid hal
    clear HM hk0 hal
    go_enter Try.func48, Try.ntmps48
    go_upto_region 1 with fail
    generalize W.alloc (.cells #[.int .i64 0, .int .i64 0, .int .i64 0] 82) = W1 at *
    go_wp2_with fail
    refine HM1.out.mono ?_
    rintro e w2 ⟨rfl, hb⟩
    have hk2 := Keeps.of_below (S := fun _ => False) hb (Nat.le_refl _)
    have ha2 := (hk2.block _ (lt_of_heap HA.out) (fun x => x)).trans HA.out
    have hk3 : Keeps (fun _ => False) w2 (w2.alloc (.cells #[.int .i64 0, .int .i64 0, .int .i64 0] 82)) := (Keeps.refl _ _).alloc _
    have ha3 := (hk3.block _ (lt_of_heap ha2) (fun x => x)).trans ha2
    have HK3 := Lib.hid ((HK0.out.trans hk2).trans hk3)
    have HA3 := Lib.hid ha3
    have HV3 := Lib.hid (HV.out _ HK3.out)
    clear HM1 HA HK0 HV hb hk2 ha2 hk3 ha3
    show _
    simp only [Option.getD_none, Option.isSome_none]
    go_upto_region 2 with fail
    generalize w2.alloc (.cells #[.int .i64 0, .int .i64 0, .int .i64 0] 82) = w3 at *
    go_wp2_with fail
    refine HV3.out.mono ?_
    rintro e w' ⟨rfl, rfl⟩
    have hf0 := free_of_heap HA3.out 0
    have hf1 := free_of_heap HA3.out 1
    have hf2 := free_of_heap HA3.out 2
    have hl2 := lt_of_heap HA3.out
    have hg0 := cell_of_heap HA3.out 0
    have hg1 := cell_of_heap HA3.out 1
    have hg2 := cell_of_heap HA3.out 2
    simp only [List.getElem?_toArray, List.getElem?_cons_zero, List.getElem?_cons_succ] at hg0 hg1 hg2
    go_wp2_with fail
    have hb3 : Keeps (fun _ => False) W (((w3.setCell ⟨W.heap.size, 0, none⟩ (.int .i64 0)).setCell ⟨W.heap.size, 1, none⟩ (.int .i64 0)).setCell ⟨W.heap.size, 2, none⟩ (.int .i64 0)) :=
      ((HK3.out.setCell (fun h => absurd h (Nat.lt_irrefl _)) _).setCell (fun h => absurd h (Nat.lt_irrefl _)) _).setCell (fun h => absurd h (Nat.lt_irrefl _)) _
    have hz : (((w3.setCell ⟨W.heap.size, 0, none⟩ (.int .i64 0)).setCell ⟨W.heap.size, 1, none⟩ (.int .i64 0)).setCell ⟨W.heap.size, 2, none⟩ (.int .i64 0)).heap[W.heap.size]? = some (.cells #[.int .i64 0, .int .i64 0, .int .i64 0] 82 (0, 0)) := by
      rw [heap_set (heap_set (heap_set HA3.out 0 _) 1 _) 2 _]; rfl
    generalize (((w3.setCell ⟨W.heap.size, 0, none⟩ (.int .i64 0)).setCell ⟨W.heap.size, 1, none⟩ (.int .i64 0)).setCell ⟨W.heap.size, 2, none⟩ (.int .i64 0)) = w4 at hb3 hz ⊢
    have z0 := cell_of_heap hz 0
    have z1 := cell_of_heap hz 1
    have z2 := cell_of_heap hz 2
    simp only [List.getElem?_toArray, List.getElem?_cons_zero, List.getElem?_cons_succ] at z0 z1 z2
    refine bodyPost_ret (v := .tuple #[.agg #[.int .i64 0, .int .i64 0, .int .i64 0], .int .i64 V]) (by simp [results, Try.results48, go_sem, *]) rfl ⟨rfl, hb3⟩
  · rw [hg] at HM
    clear hg HV
    have hal := (MapKept.heap_alloc W (.cells #[.int .i64 0, .int .i64 0, .int .i64 0] 82)).1
    have hk0 : Keeps (fun _ => False) W (W.alloc (.cells #[.int .i64 0, .int .i64 0, .int .i64 0] 82)) := (Keeps.refl _ _).alloc _
    have HM1 := Lib.hid (HM.out _ hk0)
    have HK0 := Lib.hid hk0
    have HA := Lib.hid hal
    clear HM hk0 hal
    go_enter Try.func48, Try.ntmps48
    go_upto_region 1 with fail
    generalize W.alloc (.cells #[.int .i64 0, .int .i64 0, .int .i64 0] 82) = W1 at *
    go_wp2_with fail
    refine HM1.out.mono ?_
    rintro e w2 ⟨rfl, hb⟩
    have hk2 := Keeps.of_below (S := fun _ => False) hb (Nat.le_refl _)
    have ha2 := (hk2.block _ (lt_of_heap HA.out) (fun x => x)).trans HA.out
    have hk3 : Keeps (fun _ => False) w2 (w2.alloc (.cells #[.int .i64 u, .int .i64 lo, .int .i64 hi] 82)) := (Keeps.refl _ _).alloc _
    have ha3 := (hk3.block _ (lt_of_heap ha2) (fun x => x)).trans ha2
    have hn3 := (MapKept.heap_alloc w2 (.cells #[.int .i64 u, .int .i64 lo, .int .i64 hi] 82)).1
    have hne : W.heap.size ≠ w2.heap.size := by have := lt_of_heap ha2; omega
    have HK3 := Lib.hid ((HK0.out.trans hk2).trans hk3)
    have HA3 := Lib.hid ha3
    have HN3 := Lib.hid hn3
    clear HM1 HA HK0 hb hk2 ha2 hk3 ha3 hn3
    show _
    simp only [Option.getD_some, Option.isSome_some]
    go_upto_region 2 with fail
    obtain ⟨bx, hbx⟩ : ∃ bx, w2.heap.size = bx := ⟨_, rfl⟩
    rw [hbx] at HN3 hne ⊢
    generalize w2.alloc (.cells #[.int .i64 u, .int .i64 lo, .int .i64 hi] 82) = w3 at *
    have hf0 := free_of_heap HA3.out 0
    have hf1 := free_of_heap HA3.out 1
    have hf2 := free_of_heap HA3.out 2
    have hl2 := lt_of_heap HA3.out
    have hl3 := lt_of_heap HN3.out
    have hg0 := cell_of_heap HA3.out 0
    have hg1 := cell_of_heap HA3.out 1
    have hg2 := cell_of_heap HA3.out 2
    have hh0 := cell_of_heap HN3.out 0
    have hh1 := cell_of_heap HN3.out 1
    have hh2 := cell_of_heap HN3.out 2
    simp only [List.getElem?_toArray, List.getElem?_cons_zero, List.getElem?_cons_succ] at hg0 hg1 hg2 hh0 hh1 hh2
    go_upto_region 4 with fail
    have hb3 : Keeps (fun _ => False) W ((((w3.setCell ⟨W.heap.size, 0, none⟩ (.int .i64 u)).setCell ⟨W.heap.size, 1, none⟩ (.int .i64 lo)).setCell ⟨W.heap.size, 2, none⟩ (.int .i64 hi)).drew) :=
      (((HK3.out.setCell (fun h => absurd h (Nat.lt_irrefl _)) _).setCell (fun h => absurd h (Nat.lt_irrefl _)) _).setCell (fun h => absurd h (Nat.lt_irrefl _)) _).drew
    have hz : ((((w3.setCell ⟨W.heap.size, 0, none⟩ (.int .i64 u)).setCell ⟨W.heap.size, 1, none⟩ (.int .i64 lo)).setCell ⟨W.heap.size, 2, none⟩ (.int .i64 hi)).drew).heap[W.heap.size]? = some (.cells #[.int .i64 u, .int .i64 lo, .int .i64 hi] 82 (0, 0)) := by
      show (((w3.setCell ⟨W.heap.size, 0, none⟩ (.int .i64 u)).setCell ⟨W.heap.size, 1, none⟩ (.int .i64 lo)).setCell ⟨W.heap.size, 2, none⟩ (.int .i64 hi)).heap[W.heap.size]? = _
      rw [heap_set (heap_set (heap_set HA3.out 0 _) 1 _) 2 _]; rfl
    have HB3 := Lib.hid hb3
    have HZ := Lib.hid hz
    clear hb3 hz
    go_region
    generalize ((((w3.setCell ⟨W.heap.size, 0, none⟩ (.int .i64 u)).setCell ⟨W.heap.size, 1, none⟩ (.int .i64 lo)).setCell ⟨W.heap.size, 2, none⟩ (.int .i64 hi)).drew) = w4 at HB3 HZ ⊢
    clear hg0 hg1 hg2 hh0 hh1 hh2 hf0 hf1 hf2 hl2 hl3
    go_wp2_with fail
    have z0 := cell_of_heap HZ.out 0
    have z1 := cell_of_heap HZ.out 1
    have z2 := cell_of_heap HZ.out 2
    simp only [List.getElem?_toArray, List.getElem?_cons_zero, List.getElem?_cons_succ] at z0 z1 z2
    refine bodyPost_ret (v := .tuple #[.agg #[.int .i64 u, .int .i64 lo, .int .i64 hi], .int .i64 u]) (by simp [results, Try.results48, go_sem, *]) rfl ⟨rfl, HB3.out⟩
end Go.Proofs.Ytfakjhcpaiaekaa
