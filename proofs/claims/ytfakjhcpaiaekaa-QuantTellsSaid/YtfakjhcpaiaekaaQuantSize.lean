/-
  How many nodes a diagram has.
-/
import Derived.Test.YtfakjhcpaiaekaaQuantNodes
set_option linter.unusedVariables false
set_option linter.unusedSimpArgs false
set_option linter.unnecessarySimpa false
namespace Go.Proofs.Ytfakjhcpaiaekaa
open Go.ChangeShapes Go.WideShapes Go.ChangeAt Go.RowKit Go.Deep NodePlain
section
variable {W : World} {db : Nat} {V B : Int} {st : St} {calls : Int} {Fp : Nat → Prop}
set_option maxRecDepth 100000
set_option maxHeartbeats 1600000
theorem nodes_spec (h : Bd W db V B st calls Fp) (hV0 : 0 ≤ V) (hV : V ≤ 8) (hn : st.n ≤ 10000000) {f : Int} (hi : getN st.L st.n f = none ∨ isN st.n f = true) (hb0 : -9223372036854775808 ≤ f) (hb1 : f ≤ 9223372036854775807) :
    Calls Try.prog 58 #[.pointer (some ⟨db, 0, none⟩), .int .i64 f] W fun e W' => ∃ mb, e = .returned (.map (some mb)) ∧ Hid (∃ N K Lk, Keeps (fun _ => False) W W' ∧ NMap W' mb N K Lk ∧ Dfs st.L st.n [] f Lk ∧ (∀ x v, K x = some v → ∃ lo hi, getN st.L st.n x = some (v, lo, hi)) ∧ N ≤ 1000000) := by
  have HH := Lib.hid h
  have HFI := Lib.hid hi
  have HNN := Lib.hid hn
  have h1 := (MapKept.heap_alloc W (.cells #[.pointer (some ⟨db, 0, none⟩)] 25)).1
  have kA : Keeps (fun _ => False) W (W.alloc (.cells #[.pointer (some ⟨db, 0, none⟩)] 25)) := (Keeps.refl _ _).alloc _
  have sA : (W.alloc (.cells #[.pointer (some ⟨db, 0, none⟩)] 25)).heap.size = W.heap.size + 1 := by simp
  have HA := Lib.hid h1
  have HK3 := Lib.hid kA
  have HS3 := Lib.hid sA
  clear h hi hn h1 kA sA
  go_enter Try.func58, Try.ntmps58
  go_upto_region 1 with fail
  generalize W.alloc (.cells #[.pointer (some ⟨db, 0, none⟩)] 25) = w3 at *
  have hm0 := NMap.zero w3
  have hmr : (Instr.makeMap 89 none).run Try.prog w3 = .ok (.map (some w3.heap.size)) (w3.alloc (.map #[] 0)) := rfl
  have HM0 := Lib.hid hm0
  have k4 : Keeps (fun _ => False) w3 (w3.alloc (.map #[] 0)) := (Keeps.refl _ _).alloc _
  have s4 : (w3.alloc (.map #[] 0)).heap.size = w3.heap.size + 1 := by simp
  have HK4 := Lib.hid k4
  have HS4 := Lib.hid s4
  clear hm0 k4 s4
  go_upto_region 2 with fail
  clear hmr
  obtain ⟨mb, hmb⟩ : ∃ mb, w3.heap.size = mb := ⟨_, rfl⟩
  have HMWE : Hid (mb = W.heap.size + 1) := by show mb = W.heap.size + 1; rw [← hmb]; exact HS3.out
  rw [hmb] at HM0 HS4 ⊢
  generalize w3.alloc (.map #[] 0) = w5 at *
  have ha6 := (MapKept.heap_alloc w5 (.cells #[.map (some mb)] 89)).1
  have hk6 : Keeps (fun _ => False) w5 (w5.alloc (.cells #[.map (some mb)] 89)) := (Keeps.refl _ _).alloc _
  have hs6 : (w5.alloc (.cells #[.map (some mb)] 89)).heap.size = w5.heap.size + 1 := by simp
  have HA6 := Lib.hid ha6
  have HK6 := Lib.hid hk6
  have HS6 := Lib.hid hs6
  generalize w5.alloc (.cells #[.map (some mb)] 89) = w6 at *
  rw [HS4.out] at HA6 HS6
  clear ha6 hk6 hs6 hmb
  have ha7 := (MapKept.heap_alloc w6 (.cells #[.nilFunc] 116)).1
  have c7 := cell_of_heap ha7 0
  have f7 := free_of_heap ha7 0
  have l7 := lt_of_heap ha7
  simp only [List.getElem?_toArray, List.getElem?_cons_zero] at c7
  have hst : (store ⟨w6.heap.size, 0, none⟩ (fnN W.heap.size (mb + 1) w6.heap.size)).run Try.prog (w6.alloc (.cells #[.nilFunc] 116)) = .ok () ((w6.alloc (.cells #[.nilFunc] 116)).setCell ⟨w6.heap.size, 0, none⟩ (fnN W.heap.size (mb + 1) w6.heap.size)) := by
    unfold fnN
    rw [run_store _ _ _ _ _ rfl]
    simp only [stored, c7, f7]
    rfl
  unfold fnN at hst
  have h8 := (MapKept.heap_alloc w6 (.cells #[fnN W.heap.size (mb + 1) w6.heap.size] 116)).1
  have k8 : Keeps (fun _ => False) w6 (w6.alloc (.cells #[fnN W.heap.size (mb + 1) w6.heap.size] 116)) := (Keeps.refl _ _).alloc _
  have e8 := cell_of_heap h8 0
  simp only [List.getElem?_toArray, List.getElem?_cons_zero] at e8
  have HE8 := Lib.hid e8
  have HK8 := Lib.hid k8
  clear ha7 h8 k8 e8
  go_upto_region 4 with fail
  clear hst f7 c7 l7
  unfold fnN at HE8 HK8
  generalize w6.alloc (.cells #[.func (.func 79) #[] #[.pointer (some ⟨W.heap.size, 0, none⟩), .pointer (some ⟨mb + 1, 0, none⟩), .pointer (some ⟨w6.heap.size, 0, none⟩)]] 116) = w8 at *
  have k38 : Keeps (fun _ => False) w3 w8 := (HK4.out.trans HK6.out).trans HK8.out
  have kW8 : Keeps (fun _ => False) W w8 := HK3.out.trans k38
  have hmW := HMWE.out
  have hs4 := HS4.out
  have hs6 := HS6.out
  have hFl : ∀ x, Fp x → x < W.heap.size := HH.out.lt
  have M8 : NdMem w8 db mb V B st calls Fp 0 (fun _ => none) [] W.heap.size (mb + 1) w6.heap.size := by
    refine ⟨HH.out.quiet kW8, (HM0.out.keeps HK6.out (fun x => x)).keeps HK8.out (fun x => x), ?_, (k38.cell (p := ⟨W.heap.size, 0, none⟩) (lt_of_heap HA.out) (fun x => x)).trans (by rw [cell_of_heap HA.out]; rfl), HE8.out, fun h => by have := hFl _ h; omega, by omega, by omega, by omega, fun x v h => by cases h⟩
    exact (HK8.out.cell (p := ⟨mb + 1, 0, none⟩) (lt_of_heap HA6.out) (fun x => x)).trans (by rw [cell_of_heap HA6.out]; rfl)
  have hvn : 0 ≤ varN V st.L st.n f := var_pos hV0 HH.out.good f
  have hca := cost_all (V := V) hV hvn
  have HC := Lib.hid (nodes_walk hV HH.out.good HNN.out f.toNat f rfl w8 0 _ _ M8 HFI.out hb0 hb1 (by omega))
  have HCA := Lib.hid hca
  have HW8 := Lib.hid kW8
  have c8 := HE8.out
  have HMW := Lib.hid hmW
  clear M8 hvn hca k38 kW8 hs4 hs6 hFl hmW HK3 HM0 HK4 HS4 HK6 HS6 HA6 HE8 HK8 HH HMWE HA HS3
  go_wp2_with fail
  refine HC.out.mono ?_
  rintro e w9 ⟨N', K', Lk, rfl, HM9, HK9, HD9, HN9⟩
  have c9 := HM9.out.c1
  have HP : Hid (∃ N K Lk, Keeps (fun _ => False) W w9 ∧ NMap w9 mb N K Lk ∧ Dfs st.L st.n [] f Lk ∧ (∀ x v, K x = some v → ∃ lo hi, getN st.L st.n x = some (v, lo, hi)) ∧ N ≤ 1000000) :=
    ⟨N', K', Lk, HW8.out.trans_new HK9.out (fun i hi e => by have e2 : i = mb := e; have := HMW.out; omega), HM9.out.mp, HD9.out, HM9.out.kv, by have := HN9.out; have := HCA.out; omega⟩
  clear HC HK9 HD9 HN9 HM9
  go_wp2_with fail
  go_ret
  exact ⟨mb, rfl, HP⟩
theorem qsize_any (h : Bd W db V B st calls Fp) (hV0 : 0 ≤ V) (hV : V ≤ 8) (hn : st.n ≤ 10000000) {f : Int} (hi : getN st.L st.n f = none ∨ isN st.n f = true) (hb0 : -9223372036854775808 ≤ f) (hb1 : f ≤ 9223372036854775807) :
    Calls Try.prog 26 #[.pointer (some ⟨db, 0, none⟩), .int .i64 f] W fun e W' => ∃ s : Nat, e = .returned (.int .i64 (s : Int)) ∧ Hid (Keeps (fun _ => False) W W' ∧ SizeN st.L st.n f s) := by
  have HC := Lib.hid (nodes_spec h hV0 hV hn hi hb0 hb1)
  clear h hi hn
  go_enter Try.func26, Try.ntmps26
  go_wp2_with fail
  refine HC.out.mono ?_
  rintro e w1 ⟨mb, rfl, h1⟩
  obtain ⟨N, K, Lk, hk, hm, hd, _⟩ := h1.out
  obtain ⟨D, hown, _, hsz, _⟩ := hm
  have HP : Hid (Keeps (fun _ => False) W w1 ∧ SizeN st.L st.n f Lk.length) := ⟨hk, Lk, hd, rfl⟩
  have HOW := Lib.hid hown
  have HSZ := Lib.hid hsz
  generalize Lk.length = s at *
  clear HC h1 hk hd hown hsz
  go_wp2_with (at_len; refine wpList_len_own _ rfl _ 89 rfl 3 3 Try.underlying89 _ mb N D rfl HOW.out ?_)
  rw [HSZ.out]
  go_wp2_with fail
  go_ret
  exact ⟨s, rfl, HP⟩
theorem qsize_spec (h : Bd W db V B st calls Fp) (hV0 : 0 ≤ V) (hV : V ≤ 8) (hn : st.n ≤ 10000000) {f : Int} (hi : isN st.n f = true) :
    Calls Try.prog 26 #[.pointer (some ⟨db, 0, none⟩), .int .i64 f] W fun e W' => ∃ s : Nat, e = .returned (.int .i64 (s : Int)) ∧ Hid (Keeps (fun _ => False) W W' ∧ SizeN st.L st.n f s) := by
  have hI := isN_iff.1 hi
  exact qsize_any h hV0 hV hn (.inr hi) (by omega) (by omega)
end
end Go.Proofs.Ytfakjhcpaiaekaa
