/-
  A diagram by variables in another order.
-/
import Derived.Test.YtipcgjigkipcpaaOrdMoveWalk
import Derived.BigQuiet
set_option linter.unusedVariables false
set_option linter.unusedSimpArgs false
set_option linter.unnecessarySimpa false
namespace Go.Proofs.Ytipcgjigkipcpaa
open Go.ChangeShapes Go.WideShapes Go.ChangeAt Go.RowKit Go.Deep NodePlain
section
variable {W : World} {db : Nat} {V B : Int} {st : St} {calls : Int} {Fp : Nat → Prop} {l : List Int}
/-- What is so of a move that may be. -/
def MovedPost (W : World) (db : Nat) (V B : Int) (st : St) (calls : Int) (Fp : Nat → Prop) (l : List Int) (kc : Nat) (f : Int) (e : Ending) (W' : World) : Prop :=
  ∃ x st' kc' calls' K' Fp', e = .returned (.tuple #[.int .i64 x, .bool true]) ∧ Hid (Bd W' db V B st' calls' Fp') ∧ Hid (Mv W W' Fp Fp') ∧ Hid (MvRel V B (fun v => (l.getD v 0).toNat) st kc f x st' kc' K') ∧
    Hid (0 ≤ calls' ∧ calls' ≤ calls + 2 * (costN V (varN V st.L st.n f) : Int))
set_option maxRecDepth 100000
set_option maxHeartbeats 800000
theorem omove_no (h : Bd W db V B st calls Fp) (hV0 : 0 ≤ V) (hV : V ≤ 61) (hn : st.n ≤ 100000000) {f : Int} (hf0 : -9223372036854775808 ≤ f) (hf1 : f ≤ 9223372036854775807) {v : Value} (hr : ReadsI W v l) (hl : 0 ≤ l.length) (ho : (ordB V l && isN st.n f) = false) :
    Calls Try.prog 21 #[.pointer (some ⟨db, 0, none⟩), .int .i64 f, v] W fun e W' => e = .returned (.tuple #[.int .i64 0, .bool false]) ∧ Hid (Keeps (fun _ => False) W W') := by
  have HV : Hid (∀ W', Keeps (fun _ => False) W W' → Calls Try.prog 69 #[.pointer (some ⟨db, 0, none⟩)] W' fun e w' => e = .returned (.int .i64 V) ∧ w' = W') := fun W' hk => (bvars_spec (h.quiet hk)).mono fun e w' hh => ⟨hh.1, hh.2.symm⟩
  have HR : Hid (∀ W', Keeps (fun _ => False) W W' → Calls Try.prog 68 #[.int .i64 V, v] W' fun e w' => e = .returned (.bool (ordB V l)) ∧ w' = W') := fun W' hk => (oright_spec (by omega) (by omega) (hr.keeps hk) (by omega)).mono fun e w' hh => ⟨hh.1, hh.2.symm⟩
  have HI : Hid (∀ W', Keeps (fun _ => False) W W' → Calls Try.prog 63 #[.pointer (some ⟨db, 0, none⟩), .int .i64 f] W' fun e w' => e = .returned (.bool (isN st.n f)) ∧ w' = W') := fun W' hk => (bis_spec (h.quiet hk) (by omega) f (by omega)).mono fun e w' hh => ⟨hh.1, hh.2.symm⟩
  obtain ⟨ao, cap, rfl, hcap, hrow⟩ := hr
  have hbx : ∀ w2, w2 = (W.alloc (.cells #[.pointer (some ⟨db, 0, none⟩)] 26)).alloc (.cells #[.slice ao l.length cap] 28) → Keeps (fun _ => False) W w2 ∧ w2.heap.size = W.heap.size + 2 ∧ w2.cell? ⟨W.heap.size, 0, none⟩ = some (.pointer (some ⟨db, 0, none⟩)) ∧ w2.cell? ⟨W.heap.size + 1, 0, none⟩ = some (.slice ao l.length cap) := by
    rintro w2 rfl
    have h1 := (MapKept.heap_alloc W (.cells #[.pointer (some ⟨db, 0, none⟩)] 26)).1
    have h2 := (MapKept.heap_alloc (W.alloc (.cells #[.pointer (some ⟨db, 0, none⟩)] 26)) (.cells #[.slice ao l.length cap] 28)).1
    have h3 : (W.alloc (.cells #[.pointer (some ⟨db, 0, none⟩)] 26)).heap.size = W.heap.size + 1 := by simp
    have k2 : Keeps (fun _ => False) (W.alloc (.cells #[.pointer (some ⟨db, 0, none⟩)] 26)) ((W.alloc (.cells #[.pointer (some ⟨db, 0, none⟩)] 26)).alloc (.cells #[.slice ao l.length cap] 28)) := (Keeps.refl _ _).alloc _
    rw [h3] at h2
    refine ⟨((Keeps.refl _ _).alloc _).alloc _, by simp, ?_, ?_⟩
    · rw [cell_of_heap ((k2.block _ (lt_of_heap h1) (fun x => x)).trans h1)]; rfl
    · rw [cell_of_heap h2]; rfl
  have HBX := Lib.hid hbx
  clear h hbx hrow
  generalize ordB V l = o1 at *
  generalize isN st.n f = o2 at *
  cases o1 with
  | false =>
    clear ho
    go_enter Try.func21, Try.ntmps21
    go_upto_region 1 with fail
    obtain ⟨hk, hs, d0, d1⟩ := HBX.out _ rfl
    have HK := Lib.hid hk
    generalize (W.alloc (.cells #[.pointer (some ⟨db, 0, none⟩)] 26)).alloc (.cells #[.slice ao l.length cap] 28) = w2 at *
    clear hk HBX
    go_quiet ((first | (go_at_call 69; exact Calls.quiet_of_same (HV.out _ (by first | exact HK.out | exact HK.out.drewN _ | exact HK.out.drew))) | (go_at_call 68; exact Calls.quiet_of_same (HR.out _ (by first | exact HK.out | exact HK.out.drewN _ | exact HK.out.drew))) | (go_at_call 63; exact Calls.quiet_of_same (HI.out _ (by first | exact HK.out | exact HK.out.drewN _ | exact HK.out.drew)))))
    go_wp2_with fail
    go_ret2
    exact ⟨rfl, HK.out.drewN nq⟩
  | true =>
    rw [Bool.true_and] at ho
    subst ho
    go_enter Try.func21, Try.ntmps21
    go_upto_region 1 with fail
    obtain ⟨hk, hs, d0, d1⟩ := HBX.out _ rfl
    have HK := Lib.hid hk
    generalize (W.alloc (.cells #[.pointer (some ⟨db, 0, none⟩)] 26)).alloc (.cells #[.slice ao l.length cap] 28) = w2 at *
    clear hk HBX
    go_quiet ((first | (go_at_call 69; exact Calls.quiet_of_same (HV.out _ (by first | exact HK.out | exact HK.out.drewN _ | exact HK.out.drew))) | (go_at_call 68; exact Calls.quiet_of_same (HR.out _ (by first | exact HK.out | exact HK.out.drewN _ | exact HK.out.drew))) | (go_at_call 63; exact Calls.quiet_of_same (HI.out _ (by first | exact HK.out | exact HK.out.drewN _ | exact HK.out.drew)))))
    go_wp2_with fail
    go_ret2
    exact ⟨rfl, HK.out.drewN nq⟩
theorem omove_yes (h : Bd W db V B st calls Fp) (hV0 : 0 ≤ V) (hV : V ≤ 8) {k : Nat} (hkV : V = (k : Int)) {f : Int} (hf : isN st.n f = true) {v : Value} (hr : ReadsI W v l) (hrf : ∀ g off n cap, v = .slice (some ⟨g, off, none⟩) n cap → 0 < l.length → ¬ Fp g) (ho : ordB V l = true)
    {kc : Nat} (wf : Wf V st kc) (bnd : st.n ≤ B ∧ (st.s = true → B ≤ st.n)) (hkc : kc ≤ 28000) (hc0 : 0 ≤ calls) (hc1 : calls ≤ 800000) (room : ((st.n + 2 ^ V.toNat * costN V (varN V st.L st.n f) : Nat) : Int) < B) :
    Calls Try.prog 21 #[.pointer (some ⟨db, 0, none⟩), .int .i64 f, v] W (MovedPost W db V B st calls Fp l kc f) := by
  have hn : st.n ≤ 100000000 := by have := wf.n; omega
  have hl : l.length = k := by have := (ordB_iff.1 ho).2.2.1; omega
  have hfI := isN_iff.1 hf
  have HV : Hid (∀ W', Keeps (fun _ => False) W W' → Calls Try.prog 69 #[.pointer (some ⟨db, 0, none⟩)] W' fun e w' => e = .returned (.int .i64 V) ∧ w' = W') := fun W' hk => (bvars_spec (h.quiet hk)).mono fun e w' hh => ⟨hh.1, hh.2.symm⟩
  have HR : Hid (∀ W', Keeps (fun _ => False) W W' → Calls Try.prog 68 #[.int .i64 V, v] W' fun e w' => e = .returned (.bool true) ∧ w' = W') := fun W' hk => (oright_spec (by omega) (by omega) (hr.keeps hk) (by omega)).mono fun e w' hh => ⟨by rw [hh.1, ho], hh.2.symm⟩
  have HI : Hid (∀ W', Keeps (fun _ => False) W W' → Calls Try.prog 63 #[.pointer (some ⟨db, 0, none⟩), .int .i64 f] W' fun e w' => e = .returned (.bool true) ∧ w' = W') := fun W' hk => (bis_spec (h.quiet hk) (by omega) f (by omega)).mono fun e w' hh => ⟨by rw [hh.1, hf], hh.2.symm⟩
  obtain ⟨ao, cap, rfl, hcap, hrow⟩ := hr
  have hbx : ∀ w2, w2 = (W.alloc (.cells #[.pointer (some ⟨db, 0, none⟩)] 26)).alloc (.cells #[.slice ao l.length cap] 28) → Keeps (fun _ => False) W w2 ∧ w2.heap.size = W.heap.size + 2 ∧ w2.cell? ⟨W.heap.size, 0, none⟩ = some (.pointer (some ⟨db, 0, none⟩)) ∧ w2.cell? ⟨W.heap.size + 1, 0, none⟩ = some (.slice ao l.length cap) := by
    rintro w2 rfl
    have h1 := (MapKept.heap_alloc W (.cells #[.pointer (some ⟨db, 0, none⟩)] 26)).1
    have h2 := (MapKept.heap_alloc (W.alloc (.cells #[.pointer (some ⟨db, 0, none⟩)] 26)) (.cells #[.slice ao l.length cap] 28)).1
    have h3 : (W.alloc (.cells #[.pointer (some ⟨db, 0, none⟩)] 26)).heap.size = W.heap.size + 1 := by simp
    have k2 : Keeps (fun _ => False) (W.alloc (.cells #[.pointer (some ⟨db, 0, none⟩)] 26)) ((W.alloc (.cells #[.pointer (some ⟨db, 0, none⟩)] 26)).alloc (.cells #[.slice ao l.length cap] 28)) := (Keeps.refl _ _).alloc _
    rw [h3] at h2
    refine ⟨((Keeps.refl _ _).alloc _).alloc _, by simp, ?_, ?_⟩
    · rw [cell_of_heap ((k2.block _ (lt_of_heap h1) (fun x => x)).trans h1)]; rfl
    · rw [cell_of_heap h2]; rfl
  have HBX := Lib.hid hbx
  have HH := Lib.hid h
  have HLK := Lib.hid hl
  have HROW := Lib.hid hrow
  have HRF := Lib.hid hrf
  have HWF := Lib.hid wf
  have HBD := Lib.hid bnd
  have HRM := Lib.hid room
  have HOB := Lib.hid ho
  have HFI := Lib.hid hf
  have HKV := Lib.hid hkV
  clear h hbx hl hrow hrf wf bnd room ho hf hkV
  go_enter Try.func21, Try.ntmps21
  go_upto_region 1 with fail
  obtain ⟨hk, hs, d0, d1⟩ := HBX.out _ rfl
  have HK := Lib.hid hk
  generalize (W.alloc (.cells #[.pointer (some ⟨db, 0, none⟩)] 26)).alloc (.cells #[.slice ao l.length cap] 28) = w2 at *
  clear hk HBX
  go_quiet ((first | (go_at_call 69; exact Calls.quiet_of_same (HV.out _ (by first | exact HK.out | exact HK.out.drewN _ | exact HK.out.drew))) | (go_at_call 68; exact Calls.quiet_of_same (HR.out _ (by first | exact HK.out | exact HK.out.drewN _ | exact HK.out.drew))) | (go_at_call 63; exact Calls.quiet_of_same (HI.out _ (by first | exact HK.out | exact HK.out.drewN _ | exact HK.out.drew)))))
  have HK3 := Lib.hid (HK.out.drewN nq)
  have e0 : (w2.drewN nq).cell? ⟨W.heap.size, 0, none⟩ = some (.pointer (some ⟨db, 0, none⟩)) := d0
  have e1 : (w2.drewN nq).cell? ⟨W.heap.size + 1, 0, none⟩ = some (.slice ao l.length cap) := d1
  have es : (w2.drewN nq).heap.size = W.heap.size + 2 := hs
  generalize w2.drewN nq = w3 at *
  have HES := Lib.hid es
  clear d0 d1 hs HK HV HR HI es
  go_upto_region 3 with fail
  have hm0 := IMap.zero w3
  have hmr : (Instr.makeMap 99 none).run Try.prog w3 = .ok (.map (some w3.heap.size)) (w3.alloc (.map #[] 0)) := rfl
  obtain ⟨w4, hr0, hm1, hk4⟩ := hm0.update (by decide) (x := 0) (y := 0) (by omega) (by omega) (by omega) (by omega)
  obtain ⟨w5, hr1, hm2, hk5⟩ := hm1.update (by decide) (x := 1) (y := 1) (by omega) (by omega) (by omega) (by omega)
  have HM2 := Lib.hid hm2
  have HKM : Hid (Keeps (fun k => k = w3.heap.size) (w3.alloc (.map #[] 0)) w5) := hk4.trans hk5
  clear hm0 hm1 hm2 hk4 hk5
  go_upto_region 4 with fail
  have ha6 := (MapKept.heap_alloc w5 (.cells #[.map (some w3.heap.size)] 99)).1
  have hk6 : Keeps (fun _ => False) w5 (w5.alloc (.cells #[.map (some w3.heap.size)] 99)) := (Keeps.refl _ _).alloc _
  have hs6 : (w5.alloc (.cells #[.map (some w3.heap.size)] 99)).heap.size = w5.heap.size + 1 := by simp
  have f6 := free_of_heap ha6 0
  have HA6 := Lib.hid ha6
  have HK6 := Lib.hid hk6
  have HS6 := Lib.hid hs6
  generalize w5.alloc (.cells #[.map (some w3.heap.size)] 99) = w6 at *
  obtain ⟨kb, hkb⟩ : ∃ kb, w5.heap.size = kb := ⟨_, rfl⟩
  have HKB := Lib.hid hkb
  rw [hkb] at HA6 f6 ⊢
  clear ha6 hk6 hs6 hkb hmr hr0 hr1 f6
  have ha7 := (MapKept.heap_alloc w6 (.cells #[.nilFunc] 35)).1
  have c7 := cell_of_heap ha7 0
  have f7 := free_of_heap ha7 0
  have l7 := lt_of_heap ha7
  simp only [List.getElem?_toArray, List.getElem?_cons_zero] at c7
  have hst : (store ⟨w6.heap.size, 0, none⟩ (.func (.func 70) #[] #[.pointer (some ⟨kb, 0, none⟩), .pointer (some ⟨W.heap.size, 0, none⟩), .pointer (some ⟨w6.heap.size, 0, none⟩), .pointer (some ⟨W.heap.size + 1, 0, none⟩)])).run Try.prog (w6.alloc (.cells #[.nilFunc] 35)) = .ok () ((w6.alloc (.cells #[.nilFunc] 35)).setCell ⟨w6.heap.size, 0, none⟩ (.func (.func 70) #[] #[.pointer (some ⟨kb, 0, none⟩), .pointer (some ⟨W.heap.size, 0, none⟩), .pointer (some ⟨w6.heap.size, 0, none⟩), .pointer (some ⟨W.heap.size + 1, 0, none⟩)])) := by
    rw [run_store _ _ _ _ _ rfl]
    simp only [stored, c7, f7]
    rfl
  have h8 := (MapKept.heap_alloc w6 (.cells #[.func (.func 70) #[] #[.pointer (some ⟨kb, 0, none⟩), .pointer (some ⟨W.heap.size, 0, none⟩), .pointer (some ⟨w6.heap.size, 0, none⟩), .pointer (some ⟨W.heap.size + 1, 0, none⟩)]] 35)).1
  have k8 : Keeps (fun _ => False) w6 (w6.alloc (.cells #[.func (.func 70) #[] #[.pointer (some ⟨kb, 0, none⟩), .pointer (some ⟨W.heap.size, 0, none⟩), .pointer (some ⟨w6.heap.size, 0, none⟩), .pointer (some ⟨W.heap.size + 1, 0, none⟩)]] 35)) := (Keeps.refl _ _).alloc _
  have e8 := cell_of_heap h8 0
  simp only [List.getElem?_toArray, List.getElem?_cons_zero] at e8
  have HE8 := Lib.hid e8
  have HK8 := Lib.hid k8
  clear ha7 h8 k8 e8
  go_upto_region 6 with fail
  clear hst f7 c7 l7
  generalize w6.alloc (.cells #[.func (.func 70) #[] #[.pointer (some ⟨kb, 0, none⟩), .pointer (some ⟨W.heap.size, 0, none⟩), .pointer (some ⟨w6.heap.size, 0, none⟩), .pointer (some ⟨W.heap.size + 1, 0, none⟩)]] 35) = w8 at *
  obtain ⟨mb, hmb⟩ : ∃ mb, w3.heap.size = mb := ⟨_, rfl⟩
  have hmW : mb = W.heap.size + 2 := by rw [← hmb]; exact HES.out
  rw [hmb] at HM2 HKM HA6 ⊢
  have k38 : Keeps (fun x => x = mb) w3 w8 := ((((Keeps.refl _ _).alloc (.map #[] 0)).trans HKM.out).trans (HK6.out.mono (fun _ _ x => x.elim))).trans (HK8.out.mono (fun _ _ x => x.elim))
  have kW8 : Keeps (fun _ => False) W w8 := HK3.out.trans_new k38 (fun i hi e => by omega)
  have s35 : mb + 1 ≤ w5.heap.size := by
    have h1 := HKM.out.size
    have h2 : (w3.alloc (.map #[] 0)).heap.size = w3.heap.size + 1 := by simp
    omega
  have hkb := HKB.out
  have hs6 := HS6.out
  have hs8 := HK8.out.size
  have hes := HES.out
  have hFl : ∀ x, Fp x → x < W.heap.size := HH.out.lt
  have M8 : MvMem w8 db mb V B st calls Fp (0 + 1 + 1) (setK (setK (fun _ => none) 0 0) 1 1) kb W.heap.size w6.heap.size (W.heap.size + 1) ao cap l := by
    refine ⟨HH.out.quiet kW8, (HM2.out.keeps HK6.out (fun x => x)).keeps HK8.out (fun x => x), ?_, (k38.cell (p := ⟨W.heap.size, 0, none⟩) (lt_of_cell e0) (by show ¬ W.heap.size = mb; omega)).trans e0, HE8.out, (k38.cell (p := ⟨W.heap.size + 1, 0, none⟩) (lt_of_cell e1) (by show ¬ W.heap.size + 1 = mb; omega)).trans e1, hcap, fun h => by have := hFl _ h; omega, ?_, ?_, ?_, ?_, fun h0 => ?_⟩
    · exact (HK8.out.cell (p := ⟨kb, 0, none⟩) (lt_of_heap HA6.out) (fun x => x)).trans (by rw [cell_of_heap HA6.out]; rfl)
    · rintro (h | h)
      · have := hFl _ h; omega
      · omega
    · rintro (h | h)
      · have := hFl _ h; omega
      · omega
    · rintro (h | h)
      · have := hFl _ h; omega
      · omega
    · rintro (h | h)
      · have := hFl _ h; omega
      · omega
    · obtain ⟨g, off, q1, q2, q3⟩ := HROW.out h0
      refine ⟨g, off, q1, ?_, Nat.lt_of_lt_of_le q2 kW8.size, fun j x hx => (kW8.cell (p := ⟨g, off + j, none⟩) q2 (fun x => x)).trans (q3 j x hx)⟩
      rintro (h | h)
      · exact HRF.out g off l.length cap (by rw [q1]) h0 h
      · omega
  have hP : ∀ v : Nat, v < k → l[v]? = some (((l.getD v 0).toNat : Nat) : Int) ∧ (l.getD v 0).toNat < k := fun v hv => by
    have ho := HOB.out
    rw [HKV.out] at ho
    obtain ⟨y, hy, e⟩ := ord_get ho hv
    have hg : (l.getD v 0).toNat = y := by rw [List.getD_eq_getElem?_getD, e]; simp
    exact ⟨by rw [hg]; exact e, by rw [hg]; exact hy⟩
  have hvn : 0 ≤ varN V st.L st.n f := var_pos hV0 HWF.out.ok.good f
  have hca := cost_all (V := V) hV hvn
  have R8 : MvPre V B (fun v => (l.getD v 0).toNat) st kc calls (0 + 1 + 1) (setK (setK (fun _ => none) 0 0) 1 1) f := by
    refine ⟨HFI.out, HWF.out, HBD.out, ⟨rfl, rfl, fun g m hg => ?_⟩, by omega, hc0, by omega, by omega, HRM.out⟩
    unfold setK at hg
    by_cases g1 : g = 1
    · rw [if_pos g1] at hg
      simp only [Option.some.injEq] at hg
      subst g1 hg
      exact ⟨is1 _, is1 _, fun β => by rw [ev1, ev1]⟩
    · rw [if_neg g1] at hg
      by_cases g0 : g = 0
      · rw [if_pos g0] at hg
        simp only [Option.some.injEq] at hg
        subst g0 hg
        exact ⟨is0 _, is0 _, fun β => by rw [ev0, ev0]⟩
      · rw [if_neg g0] at hg; cases hg
  have HC := Lib.hid (move_spec hV0 hV HKV.out hP f.toNat f rfl w8 st kc calls Fp _ _ M8 R8)
  have HW8 := Lib.hid kW8
  have c8 := HE8.out
  have HMW := Lib.hid (And.intro hmW hs8)
  have HCA := Lib.hid hca
  have HFL := Lib.hid hFl
  clear M8 R8 hP hvn hca k38 kW8 s35 hkb hs6 hs8 hes hFl hmW hmb e0 e1 HK3 HES HM2 HKM HK6 HS6 HA6 HKB HE8 HK8 HH hfI
  go_wp2_with fail
  refine HC.out.mono ?_
  rintro e w9 ⟨x, st', kc', calls', N', K', Fp', rfl, HM9, HV9, HR9, HN9⟩
  have HSP : Hid (Calls Try.prog 71 #[.pointer (some ⟨db, 0, none⟩)] w9 fun e W' => e = .returned (.bool false) ∧ w9 = W') := by
    have q := bspent_spec HM9.out.bd
    have hs : st'.s = false := by
      cases e : st'.s with
      | false => rfl
      | true =>
        have h1 := HR9.out.bnd.2 e
        have h2 := HR9.out.n
        have h3 := HRM.out
        omega
    rw [hs] at q
    exact q
  have c2 := HM9.out.c2
  have HP : Hid (MovedPost W db V B st calls Fp l kc f (.returned (.tuple #[.int .i64 x, .bool true])) w9) := by
    refine ⟨x, st', kc', calls', K', Fp', rfl, HM9.out.bd, ⟨(HW8.out.mono (fun _ _ x => x.elim)).trans_new HV9.out.keeps (fun i hi hq => ?_), fun y hy => ?_⟩, HR9, HN9.out.1, HN9.out.2.1⟩
    · rcases hq with h | h
      · exact h
      · have := HMW.out.1; omega
    · rcases HV9.out.fp y (.inl hy) with (h | h) | h
      · exact .inl h
      · exact .inr (by have := HMW.out.1; omega)
      · exact .inr (Nat.le_trans HW8.out.size h)
  clear HC HV9 HR9 HN9 HM9
  go_wp2_with (go_at_call 71; refine HSP.out.mono ?_; rintro e w' ⟨rfl, rfl⟩)
  go_ret2
  exact HP.out
end
end Go.Proofs.Ytipcgjigkipcpaa
