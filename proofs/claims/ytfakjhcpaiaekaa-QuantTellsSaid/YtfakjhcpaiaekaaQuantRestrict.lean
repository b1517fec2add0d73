/-
  A diagram where a variable is so.
-/
import Derived.Test.YtfakjhcpaiaekaaQuantWalk
import Derived.Test.YtfakjhcpaiaekaaMF
import Derived.BigQuiet
set_option linter.unusedVariables false
set_option linter.unusedSimpArgs false
set_option linter.unnecessarySimpa false
namespace Go.Proofs.Ytfakjhcpaiaekaa
open Go.ChangeShapes Go.WideShapes Go.ChangeAt Go.RowKit Go.Deep NodePlain
/-- What a call of the maker leaves: a number more, and how much was made. -/
structure Mk (W : World) (db : Nat) (V B : Int) (st : St) (K u : Nat) (Fp : Nat → Prop) (x : Int) (st' : St) (K' : Nat) (F : Nat → Prop) (c' : Int) (W' : World) (S : (Nat → Bool) → Bool) : Prop where
  bd : Bd W' db V B st' c' F
  mv : Mv W W' Fp F
  fine : Fine V B K' st'
  kc : K' ≤ K + u
  n : st'.n ≤ st.n + u * 2 ^ V.toNat
  ext : Ext st.L st.n st'.L st'.n
  isx : isN st'.n x = true
  ev : ∀ β, ev st'.L β x = S β
theorem cost_pow {V v : Int} (hv : 0 ≤ v) : costN V v + 1 ≤ 2 ^ V.toNat := by
  unfold costN
  have : 2 ^ (V - v).toNat ≤ 2 ^ V.toNat := Nat.pow_le_pow_right (by omega) (by omega)
  have : 1 ≤ 2 ^ (V - v).toNat := Nat.one_le_two_pow
  omega
section
variable {W : World} {db : Nat} {V B : Int} {st : St} {calls : Int} {Fp : Nat → Prop} {K : Nat}
set_option maxRecDepth 100000
set_option maxHeartbeats 1600000
theorem restrict_spec (h : Bd W db V B st calls Fp) (hV0 : 0 ≤ V) (hV : V ≤ 8) (hf : Fine V B K st) (hK : K ≤ 30000) {f : Int} (hi : isN st.n f = true) (v : Int) (so : Bool) (room : ((st.n + 2 ^ V.toNat : Nat) : Int) < B) :
    Calls Try.prog 24 #[.pointer (some ⟨db, 0, none⟩), .int .i64 f, .int .i64 v, .bool so] W fun e W' => ∃ x st' F, e = .returned (.int .i64 x) ∧ Hid (Mk W db V B st K 1 Fp x st' (K + 1) F calls W' (fun β => ev st.L (putB β v so) f)) := by
  have hn : st.n ≤ 8000000 := by have := hf.wf.n; omega
  have hfI := isN_iff.1 hi
  have HI : Hid (∀ W', Keeps (fun _ => False) W W' → Calls Try.prog 28 #[.pointer (some ⟨db, 0, none⟩), .int .i64 f] W' fun e w' => e = .returned (.bool true) ∧ W' = w') := fun W' hk => (bis_spec (h.quiet hk) (by omega) f (by omega)).mono fun e w' hh => ⟨by rw [hh.1, hi], hh.2⟩
  have HH := Lib.hid h
  have HF := Lib.hid hf
  have HFI := Lib.hid hi
  have HRM := Lib.hid room
  have hbx : ∀ w2, w2 = ((W.alloc (.cells #[.pointer (some ⟨db, 0, none⟩)] 25)).alloc (.cells #[.int .i64 v] 3)).alloc (.cells #[.bool so] 4) → Keeps (fun _ => False) W w2 ∧ w2.heap.size = W.heap.size + 3 ∧ w2.cell? ⟨W.heap.size, 0, none⟩ = some (.pointer (some ⟨db, 0, none⟩)) ∧ w2.cell? ⟨W.heap.size + 1, 0, none⟩ = some (.int .i64 v) ∧ w2.cell? ⟨W.heap.size + 2, 0, none⟩ = some (.bool so) := by
    rintro w2 rfl
    have h1 := (MapKept.heap_alloc W (.cells #[.pointer (some ⟨db, 0, none⟩)] 25)).1
    generalize hA : W.alloc (.cells #[.pointer (some ⟨db, 0, none⟩)] 25) = wA at h1 ⊢
    have s1 : wA.heap.size = W.heap.size + 1 := by rw [← hA]; simp
    have kA : Keeps (fun _ => False) W wA := by rw [← hA]; exact (Keeps.refl _ _).alloc _
    have h2 := (MapKept.heap_alloc wA (.cells #[.int .i64 v] 3)).1
    rw [s1] at h2
    generalize hB : wA.alloc (.cells #[.int .i64 v] 3) = wB at h2 ⊢
    have s2 : wB.heap.size = W.heap.size + 2 := by rw [← hB]; simp [s1]
    have kB : Keeps (fun _ => False) wA wB := by rw [← hB]; exact (Keeps.refl _ _).alloc _
    have h3 := (MapKept.heap_alloc wB (.cells #[.bool so] 4)).1
    rw [s2] at h3
    have kC : Keeps (fun _ => False) wB (wB.alloc (.cells #[.bool so] 4)) := (Keeps.refl _ _).alloc _
    refine ⟨(kA.trans kB).trans kC, by simp [s2], ?_, ?_, ?_⟩
    · rw [cell_of_heap ((kC.block _ (by omega) (fun x => x)).trans ((kB.block _ (lt_of_heap h1) (fun x => x)).trans h1))]; rfl
    · rw [cell_of_heap ((kC.block _ (lt_of_heap h2) (fun x => x)).trans h2)]; rfl
    · rw [cell_of_heap h3]; rfl
  have HBX := Lib.hid hbx
  clear h hf hi room hbx
  go_enter Try.func24, Try.ntmps24
  go_upto_region 1 with fail
  obtain ⟨hk, hs, e0, e1, e2⟩ := HBX.out _ rfl
  have HK3 := Lib.hid hk
  have HES := Lib.hid hs
  generalize ((W.alloc (.cells #[.pointer (some ⟨db, 0, none⟩)] 25)).alloc (.cells #[.int .i64 v] 3)).alloc (.cells #[.bool so] 4) = w3 at *
  clear hk hs HBX
  go_wp2_with fail
  refine (HI.out _ HK3.out).mono ?_
  rintro e w' ⟨rfl, rfl⟩
  clear HI
  have hm0 := IMap.zero w3
  have hmr : (Instr.makeMap 89 none).run Try.prog w3 = .ok (.map (some w3.heap.size)) (w3.alloc (.map #[] 0)) := rfl
  have HM0 := Lib.hid hm0
  have k4 : Keeps (fun _ => False) w3 (w3.alloc (.map #[] 0)) := (Keeps.refl _ _).alloc _
  have s4 : (w3.alloc (.map #[] 0)).heap.size = w3.heap.size + 1 := by simp
  have HK4 := Lib.hid k4
  have HS4 := Lib.hid s4
  clear hm0 k4 s4
  go_upto_region 4 with fail
  clear hmr
  obtain ⟨mb, hmb⟩ : ∃ mb, w3.heap.size = mb := ⟨_, rfl⟩
  have HMWE : Hid (mb = W.heap.size + 3) := by show mb = W.heap.size + 3; rw [← hmb]; exact HES.out
  rw [hmb] at HM0 HS4 ⊢
  generalize w3.alloc (.map #[] 0) = w5 at *
  have ha6 := (MapKept.heap_alloc w5 (.cells #[.map (some mb)] 89)).1
  have hk6 : Keeps (fun _ => False) w5 (w5.alloc (.cells #[.map (some mb)] 89)) := (Keeps.refl _ _).alloc _
  have hs6 : (w5.alloc (.cells #[.map (some mb)] 89)).heap.size = w5.heap.size + 1 := by simp
  have HA6 := Lib.hid ha6
  have HK6 := Lib.hid hk6
  have HS6 := Lib.hid hs6
  generalize w5.alloc (.cells #[.map (some mb)] 89) = w6 at *
  rw [HS4.out] at HA6 HS6
  clear ha6 hk6 hs6 hmb
  have ha7 := (MapKept.heap_alloc w6 (.cells #[.nilFunc] 49)).1
  have c7 := cell_of_heap ha7 0
  have f7 := free_of_heap ha7 0
  have l7 := lt_of_heap ha7
  simp only [List.getElem?_toArray, List.getElem?_cons_zero] at c7
  have hst : (store ⟨w6.heap.size, 0, none⟩ (fnR W.heap.size (W.heap.size + 1) (mb + 1) (W.heap.size + 1 + 1) w6.heap.size)).run Try.prog (w6.alloc (.cells #[.nilFunc] 49)) = .ok () ((w6.alloc (.cells #[.nilFunc] 49)).setCell ⟨w6.heap.size, 0, none⟩ (fnR W.heap.size (W.heap.size + 1) (mb + 1) (W.heap.size + 1 + 1) w6.heap.size)) := by
    unfold fnR
    rw [run_store _ _ _ _ _ rfl]
    simp only [stored, c7, f7]
    rfl
  unfold fnR at hst
  have h8 := (MapKept.heap_alloc w6 (.cells #[fnR W.heap.size (W.heap.size + 1) (mb + 1) (W.heap.size + 1 + 1) w6.heap.size] 49)).1
  have k8 : Keeps (fun _ => False) w6 (w6.alloc (.cells #[fnR W.heap.size (W.heap.size + 1) (mb + 1) (W.heap.size + 1 + 1) w6.heap.size] 49)) := (Keeps.refl _ _).alloc _
  have e8 := cell_of_heap h8 0
  simp only [List.getElem?_toArray, List.getElem?_cons_zero] at e8
  have HE8 := Lib.hid e8
  have HK8 := Lib.hid k8
  clear ha7 h8 k8 e8
  go_upto_region 6 with fail
  clear hst f7 c7 l7
  unfold fnR at HE8 HK8
  generalize w6.alloc (.cells #[.func (.func 55) #[] #[.pointer (some ⟨W.heap.size, 0, none⟩), .pointer (some ⟨W.heap.size + 1, 0, none⟩), .pointer (some ⟨mb + 1, 0, none⟩), .pointer (some ⟨W.heap.size + 1 + 1, 0, none⟩), .pointer (some ⟨w6.heap.size, 0, none⟩)]] 49) = w8 at *
  have k38 : Keeps (fun _ => False) w3 w8 := (HK4.out.trans HK6.out).trans HK8.out
  have kW8 : Keeps (fun _ => False) W w8 := HK3.out.trans k38
  have hmW := HMWE.out
  have hs4 := HS4.out
  have hs6 := HS6.out
  have hs8 := HK8.out.size
  have hes := HES.out
  have hFl : ∀ x, Fp x → x < W.heap.size := HH.out.lt
  have nq : ∀ y, W.heap.size ≤ y → y ≠ mb → ¬ Qr Fp mb y := fun y h1 h2 hq => by
    rcases hq with h | h
    · have := hFl _ h; omega
    · exact h2 h
  have M8 : RMem w8 db mb V B st calls Fp 0 (fun _ => none) W.heap.size (W.heap.size + 1) (mb + 1) (W.heap.size + 1 + 1) w6.heap.size v so := by
    refine ⟨HH.out.quiet kW8, (HM0.out.keeps HK6.out (fun x => x)).keeps HK8.out (fun x => x), ?_, (k38.cell (p := ⟨W.heap.size, 0, none⟩) (lt_of_cell e0) (fun x => x)).trans e0, HE8.out, (k38.cell (p := ⟨W.heap.size + 1, 0, none⟩) (lt_of_cell e1) (fun x => x)).trans e1, (k38.cell (p := ⟨W.heap.size + 2, 0, none⟩) (lt_of_cell e2) (fun x => x)).trans e2, fun h => by have := hFl _ h; omega, nq _ (by omega) (by omega), nq _ (by omega) (by omega), nq _ (by omega) (by omega), nq _ (by omega) (by omega), nq _ (by omega) (by omega)⟩
    exact (HK8.out.cell (p := ⟨mb + 1, 0, none⟩) (lt_of_heap HA6.out) (fun x => x)).trans (by rw [cell_of_heap HA6.out]; rfl)
  have hvn : 0 ≤ varN V st.L st.n f := var_pos hV0 HF.out.wf.ok.good f
  have hcp := cost_pow (V := V) hvn
  have hca : costN V (varN V st.L st.n f) ≤ 255 ∧ costN V (varN V st.L st.n f) + 1 ≤ 2 ^ V.toNat := ⟨cost_all hV hvn, hcp⟩
  have R8 : RPre V B v so st 0 (fun _ => none) f := ⟨HFI.out, HF.out.wf.ok, HF.out.bnd, ⟨fun g m hg => by cases hg⟩, by omega, by omega, by have := HRM.out; omega⟩
  have HC := Lib.hid (restrict_walk hV0 hV f.toNat f rfl w8 st Fp _ _ M8 R8)
  have HW8 := Lib.hid kW8
  have c8 := HE8.out
  have HMW := Lib.hid hmW
  have HCA := Lib.hid hca
  clear M8 R8 hvn hca hcp k38 kW8 hs4 hs6 hs8 hes hFl nq hmW e0 e1 e2 HK3 HES HM0 HK4 HS4 HK6 HS6 HA6 HE8 HK8 HH hfI hn
  go_wp2_with fail
  refine HC.out.mono ?_
  rintro e w9 ⟨x, st', N', K', F, rfl, HM9, HV9, HR9, HN9⟩
  have HP : Hid (Mk W db V B st K 1 Fp x st' (K + 1) F calls w9 (fun β => ev st.L (putB β v so) f)) := by
    have hw := HF.out.wf
    have r1 := HR9.out.n
    have r2 := HR9.out.hits
    have h1 := hw.n
    have h2 := hw.h0
    have h3 := hw.h1
    have hc := HCA.out
    refine ⟨HM9.out.bd, ⟨(HW8.out.mono (fun _ _ x => x.elim)).trans_new HV9.out.keeps (fun i hi hq => ?_), fun y hy => ?_⟩, ⟨⟨HR9.out.ok, by omega, by omega, by omega⟩, HR9.out.bnd⟩, Nat.le_refl _, by rw [Nat.one_mul]; omega, HR9.out.ext, HR9.out.isx, HR9.out.ev⟩
    · rcases hq with h | h
      · exact h
      · have := HMW.out; omega
    · rcases HV9.out.fp y (.inl hy) with (h | h) | h
      · exact .inl h
      · exact .inr (by have := HMW.out; omega)
      · exact .inr (Nat.le_trans HW8.out.size h)
  clear HC HV9 HR9 HN9 HM9
  go_wp2_with fail
  go_ret
  exact ⟨x, st', F, rfl, HP⟩
end
end Go.Proofs.Ytfakjhcpaiaekaa
