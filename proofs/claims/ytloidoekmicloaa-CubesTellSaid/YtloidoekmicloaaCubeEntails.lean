/-
  What is, entails itself.
-/
import Derived.Test.YtloidoekmicloaaMU
set_option linter.unusedVariables false
set_option linter.unusedSimpArgs false
set_option linter.unnecessarySimpa false
namespace Go.Proofs.Ytloidoekmicloaa
open Go.ChangeShapes Go.WideShapes Go.ChangeAt Go.RowKit Go.Deep NodePlain
def fnE (kx dx wx : Nat) : Value := .func (.func 60) #[] #[.pointer (some ⟨kx, 0, none⟩), .pointer (some ⟨dx, 0, none⟩), .pointer (some ⟨wx, 0, none⟩)]
section
variable {W W' : World} {k d : Nat} {B : Int} {st : St} {calls : Int} {F : Nat → Prop}
set_option maxRecDepth 100000
set_option maxHeartbeats 1600000
theorem holds_self (f : Int) (a b c : Value) (W : World) : Calls Try.prog 60 #[.int .i64 f, .int .i64 f, a, b, c] W fun e W' => e = .returned (.bool true) ∧ W = W' := by
  by_cases h0 : f = 0
  · subst h0
    go_enter Try.func60, Try.ntmps60
    go_wp2_with fail
    go_ret
    exact ⟨rfl, rfl⟩
  · by_cases h1 : f = 1
    · subst h1
      go_enter Try.func60, Try.ntmps60
      go_wp2_with fail
      go_ret
      exact ⟨rfl, rfl⟩
    · have h0b : (f == 0) = false := by simp [h0]
      have h1b : (f == 1) = false := by simp [h1]
      have hff : (f == f) = true := by simp
      go_enter Try.func60, Try.ntmps60
      go_wp2_with fail
      go_ret
      exact ⟨rfl, rfl⟩
theorem entails_self (h : Bd W d k B st calls F) (hn : st.n ≤ 100000000) {f : Int} (hf : isN st.n f = true) :
    Calls Try.prog 39 #[.pointer (some ⟨d, 0, none⟩), .int .i64 f, .int .i64 f] W fun e W' => e = .returned (.bool true) ∧ Hid (Keeps (fun _ => False) W W') := by
  have hr := isN_iff.1 hf
  have hbx : Keeps (fun _ => False) W (W.alloc (.cells #[.pointer (some ⟨d, 0, none⟩)] 25)) := (Keeps.refl _ _).alloc _
  have hab := (MapKept.heap_alloc W (.cells #[.pointer (some ⟨d, 0, none⟩)] 25)).1
  have e0 := cell_of_heap hab 0
  simp only [List.getElem?_toArray, List.getElem?_cons_zero] at e0
  have HN := Lib.hid (never_spec (h.quiet hbx) hn hf)
  have HI := Lib.hid (bis_spec (h.quiet hbx) (by omega) f (by omega))
  rw [hf] at HI
  have HK2 := Lib.hid hbx
  by_cases h0 : f = 0
  · rw [decide_eq_true h0] at HN
    subst h0
    clear h hf hbx hab hr HI
    go_enter Try.func39, Try.ntmps39
    go_upto_region 1 with fail
    generalize W.alloc (.cells #[.pointer (some ⟨d, 0, none⟩)] 25) = w3 at *
    go_wp2_with fail
    refine HN.out.mono ?_
    rintro e w' ⟨rfl, rfl⟩
    go_wp2_with fail
    refine HN.out.mono ?_
    rintro e w' ⟨rfl, rfl⟩
    go_wp2_with fail
    go_ret
    exact ⟨rfl, HK2⟩
  · rw [decide_eq_false h0] at HN
    clear h hf hbx hr
    go_enter Try.func39, Try.ntmps39
    go_upto_region 1 with fail
    have hl3 := lt_of_heap hab
    generalize W.alloc (.cells #[.pointer (some ⟨d, 0, none⟩)] 25) = w3 at *
    go_wp2_with fail
    refine HN.out.mono ?_
    rintro e w' ⟨rfl, rfl⟩
    go_wp2_with fail
    refine HI.out.mono ?_
    rintro e w' ⟨rfl, rfl⟩
    go_upto_region 3 with fail
    have hmr : (Instr.makeMap 100 none).run Try.prog w3 = .ok (.map (some w3.heap.size)) (w3.alloc (.map #[] 0)) := rfl
    have kmap : Keeps (fun _ => False) w3 (w3.alloc (.map #[] 0)) := (Keeps.refl _ _).alloc _
    go_upto_region 4 with fail
    have k6 : Keeps (fun _ => False) (w3.alloc (.map #[] 0)) ((w3.alloc (.map #[] 0)).alloc (.cells #[.map (some w3.heap.size)] 100)) := (Keeps.refl _ _).alloc _
    have HK6 := Lib.hid ((HK2.out.trans kmap).trans k6)
    clear kmap k6 hmr
    obtain ⟨kb, hkb⟩ : ∃ kb, w3.heap.size + 1 = kb := ⟨_, rfl⟩
    rw [hkb]
    generalize (w3.alloc (.map #[] 0)).alloc (.cells #[.map (some w3.heap.size)] 100) = w6 at *
    clear hkb
    have ha7 := (MapKept.heap_alloc w6 (.cells #[.nilFunc] 101)).1
    have c7 := cell_of_heap ha7 0
    have f7 := free_of_heap ha7 0
    have l7 := lt_of_heap ha7
    simp only [List.getElem?_toArray, List.getElem?_cons_zero] at c7
    have hst : (store ⟨w6.heap.size, 0, none⟩ (fnE kb W.heap.size w6.heap.size)).run Try.prog (w6.alloc (.cells #[.nilFunc] 101)) = .ok () ((w6.alloc (.cells #[.nilFunc] 101)).setCell ⟨w6.heap.size, 0, none⟩ (fnE kb W.heap.size w6.heap.size)) := by
      unfold fnE
      rw [run_store _ _ _ _ _ rfl]
      simp only [stored, c7, f7]
      rfl
    unfold fnE at hst
    have h8 := (MapKept.heap_alloc w6 (.cells #[fnE kb W.heap.size w6.heap.size] 101)).1
    have k8 : Keeps (fun _ => False) w6 (w6.alloc (.cells #[fnE kb W.heap.size w6.heap.size] 101)) := (Keeps.refl _ _).alloc _
    have e8 := cell_of_heap h8 0
    simp only [List.getElem?_toArray, List.getElem?_cons_zero] at e8
    have HK8 := Lib.hid (HK6.out.trans k8)
    clear ha7 h8 k8
    go_upto_region 6 with fail
    clear hst f7 c7 l7
    unfold fnE at HK8 e8
    generalize w6.alloc (.cells #[.func (.func 60) #[] #[.pointer (some ⟨kb, 0, none⟩), .pointer (some ⟨W.heap.size, 0, none⟩), .pointer (some ⟨w6.heap.size, 0, none⟩)]] 101) = w8 at *
    go_wp2_with fail
    refine (holds_self f _ _ _ _).mono ?_
    rintro e w9 ⟨rfl, rfl⟩
    go_wp2_with fail
    go_ret
    exact ⟨rfl, HK8⟩
end
end Go.Proofs.Ytloidoekmicloaa
