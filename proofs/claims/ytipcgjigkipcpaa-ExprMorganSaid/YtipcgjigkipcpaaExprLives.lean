/-
  The document's example of formulas is as it says.
-/
import Derived.Test.YtipcgjigkipcpaaExprBuild
import Derived.Test.YtipcgjigkipcpaaExprSteps
import Derived.Test.YtipcgjigkipcpaaExprDepth
import Derived.Test.YtipcgjigkipcpaaIteNew
set_option linter.unusedVariables false
set_option linter.unusedSimpArgs false
set_option linter.unnecessarySimpa false
namespace Go.Proofs.Ytipcgjigkipcpaa
open Go.ChangeShapes Go.WideShapes Go.ChangeAt Go.RowKit Go.Deep NodePlain
def lv3 : List Sp := [⟨1, 0, 0⟩, ⟨2, 0, 0⟩, ⟨3, 0, 1⟩]
theorem lv3_row {W : World} {b : Nat} (h : W.heap[b]? = some (.cells #[.int .i64 1, .int .i64 0, .int .i64 0, .int .i64 2, .int .i64 0, .int .i64 0, .int .i64 3, .int .i64 0, .int .i64 1] 107 (0, 0))) : SpRow W (some ⟨b, 0, none⟩) lv3 := fun _ => by
  refine ⟨b, 0, rfl, lt_of_heap h, fun i s hs => ?_⟩
  rw [cell_of_heap h, cell_of_heap h, cell_of_heap h]
  match i, hs with
  | 0, hs => simp [lv3] at hs; subst hs; exact ⟨rfl, rfl, rfl⟩
  | 1, hs => simp [lv3] at hs; subst hs; exact ⟨rfl, rfl, rfl⟩
  | 2, hs => simp [lv3] at hs; subst hs; exact ⟨rfl, rfl, rfl⟩
  | i + 3, hs => simp [lv3] at hs
theorem lv3_right : rightE 1 lv3 = true := by decide
theorem lv3_at (β : Nat → Bool) : atE β lv3 = false := by
  show (β 0 && !β 0) = false
  cases β 0 <;> rfl
theorem lv3_dep : depE lv3 = 3 := by decide
/-- What a formula's number is true at. -/
theorem bldN_ev {V B : Int} {kc : Nat} {st : St} (hV0 : 0 ≤ V) (hV : V ≤ 8) (h : Fine V B kc st) {l : List Sp} (hr : rightE V l = true) (room : ((st.n + l.length * (2 * 2 ^ V.toNat) : Nat) : Int) < B) :
    Fine V B (kc + 2 * l.length) (bldN V B l st).2 ∧ isN (bldN V B l st).2.n (bldN V B l st).1 = true ∧ (bldN V B l st).2.n ≤ st.n + l.length * (2 * 2 ^ V.toNat) ∧ Ext st.L st.n (bldN V B l st).2.L (bldN V B l st).2.n ∧ ∀ β, ev (bldN V B l st).2.L β (bldN V B l st).1 = atE β l := by
  have b := binv_all hV0 hV h hr room l.length (Nat.le_refl _)
  exact ⟨b.fine, b.is _, b.n, b.ext, fun β => b.ev β _⟩
theorem fine0 {V B : Int} (hB : 0 ≤ B) : Fine V B 0 st0 := ⟨wf0 V, by show ((0 : Nat) : Int) ≤ B; omega, fun e => by cases e⟩
set_option maxRecDepth 100000
set_option maxHeartbeats 3200000
theorem lives19_any (w : World) : Calls Try.prog 34 #[] w fun e w' => e = .returned (.bool true) ∧ Below w.heap.size w w' := by
  have HF : Hid ((bldN 1 50 lv3 st0).1 = 0) := by
    show (bldN 1 50 lv3 st0).1 = 0
    obtain ⟨f1, f2, f3, f4, f5⟩ := bldN_ev (V := 1) (B := 50) (by omega) (by omega) (fine0 (by omega)) lv3_right (by decide)
    exact once_bits f1.wf.ok.good 1 rfl f2 (is0 _) (fun j _ => by rw [f5, lv3_at, ev0])
  have hal := (MapKept.heap_alloc w (.cells #[.int .i64 1, .int .i64 0, .int .i64 0, .int .i64 2, .int .i64 0, .int .i64 0, .int .i64 3, .int .i64 0, .int .i64 1] 107)).1
  have hk1 : Keeps (fun _ => False) w (w.alloc (.cells #[.int .i64 1, .int .i64 0, .int .i64 0, .int .i64 2, .int .i64 0, .int .i64 0, .int .i64 3, .int .i64 0, .int .i64 1] 107)) := (Keeps.refl _ _).alloc _
  have hr1 := lv3_row hal
  have HN : Hid (∀ W : World, Calls Try.prog 13 #[.int .i64 1, .int .i64 50] W fun e W' => ∃ db Fp, e = .returned (.pointer (some ⟨db, 0, none⟩)) ∧ Hid (Bd W' db 1 50 st0 0 Fp ∧ Keeps (fun _ => False) W W' ∧ ∀ x, Fp x → W.heap.size ≤ x)) := fun W => bnew_spec W 1 50 1 50 (by omega) (by omega) rfl ⟨by omega, rfl⟩
  have HB : Hid (∀ (W W' : World) (db bx : Nat) (Fp : Nat → Prop), bx < W.heap.size → (Bd W' db 1 50 st0 0 Fp ∧ Keeps (fun _ => False) W W' ∧ ∀ x, Fp x → W.heap.size ≤ x) → SpRow W' (some ⟨bx, 0, none⟩) lv3 → Calls Try.prog 35 #[.pointer (some ⟨db, 0, none⟩), .slice (some ⟨bx, 0, none⟩) 3 3] W' fun e W2 => e = .returned (.tuple #[.int .i64 0, .bool true]) ∧ Keeps (fun x => W.heap.size ≤ x) W W2) := fun W W' db bx Fp hlt hd hr => by
    refine (build_spec hd.1 (by omega) (by omega) (fine0 (by omega)) (l := lv3) (n := 3) (cap := 3) rfl (Nat.le_refl _) hr (fun b off e hF => ?_) lv3_right (by omega) (by omega) (by omega) (by decide)).mono ?_
    · simp only [Option.some.injEq, Addr.mk.injEq, and_true] at e
      have := hd.2.2 b hF
      omega
    · rintro e W2 ⟨rfl, h⟩
      obtain ⟨c, F, hb, hm, _, _⟩ := h.out
      rw [HF.out]
      exact ⟨rfl, (hd.2.1.mono (fun _ _ x => x.elim)).trans_new hm.keeps (fun i hi hx => hd.2.2 i hx)⟩
  have HAT : Hid (∀ (W : World) (bx : Nat), SpRow W (some ⟨bx, 0, none⟩) lv3 → Calls Try.prog 28 #[.int .i64 1, .int .u64 1, .slice (some ⟨bx, 0, none⟩) 3 3] W fun e W' => e = .returned (.tuple #[.bool false, .bool true]) ∧ Keeps (fun _ => False) W W') := fun W bx hr => by
    have q := eAt_spec W (X := 1) (by omega) 1 (l := lv3) (n := 3) (cap := 3) rfl (Nat.le_refl _) hr
    rw [lv3_right, lv3_at] at q
    exact q
  have HDP : Hid (∀ (W : World) (bx : Nat), SpRow W (some ⟨bx, 0, none⟩) lv3 → Calls Try.prog 32 #[.slice (some ⟨bx, 0, none⟩) 3 3] W fun e W' => e = .returned (.int .i64 3) ∧ Keeps (fun _ => False) W W') := fun W bx hr => by
    have q := edepth_spec W (vars := 1) (l := lv3) (n := 3) (cap := 3) rfl (Nat.le_refl _) (by omega) hr (fun j s hs => by
      have hj : j < lv3.length := by
        rcases Nat.lt_or_ge j lv3.length with h' | h'
        · exact h'
        · rw [List.getElem?_eq_none h'] at hs; cases hs
      have := right_at lv3_right hj
      rw [getD_of hs] at this
      exact this)
    rw [lv3_dep] at q
    exact q
  have HR1 := Lib.hid hr1
  have HK1 := Lib.hid hk1
  have hlt := lt_of_heap hal
  clear hal hr1 hk1
  go_enter Try.func34, Try.ntmps34
  go_upto_region 2 with fail
  obtain ⟨bx, hbx⟩ : ∃ bx, w.heap.size = bx := ⟨_, rfl⟩
  rw [hbx] at HR1 hlt ⊢
  generalize w.alloc (.cells #[.int .i64 1, .int .i64 0, .int .i64 0, .int .i64 2, .int .i64 0, .int .i64 0, .int .i64 3, .int .i64 0, .int .i64 1] 107) = w1 at *
  go_wp2_with fail
  refine (HN.out w1).mono ?_
  rintro e w2 ⟨db, Fp, rfl, hd⟩
  have HR2 := Lib.hid (HR1.out.quiet hd.out.2.1)
  go_wp2_with fail
  refine (HB.out w1 w2 db bx Fp hlt hd.out HR2.out).mono ?_
  rintro e w3 ⟨rfl, hk3⟩
  have HK3 := Lib.hid hk3
  have HR3 := Lib.hid (HR1.out.old hk3)
  clear hk3 hd HR2 HN HB
  go_wp2_with fail
  refine (HAT.out w3 bx HR3.out).mono ?_
  rintro e w4 ⟨rfl, hk4⟩
  have HK4 := Lib.hid hk4
  have HR4 := Lib.hid (HR3.out.quiet hk4)
  clear hk4
  go_wp2_with fail
  refine (HDP.out w4 bx HR4.out).mono ?_
  rintro e w5 ⟨rfl, hk5⟩
  have HKW : Hid (Below w.heap.size w w5) := by
    have k1 : Keeps (fun x => w.heap.size ≤ x) w w1 := HK1.out.mono (fun _ _ x => x.elim)
    have hs := HK1.out.size
    have k3 := k1.trans_new HK3.out (fun i hi hx => by have hx2 : w1.heap.size ≤ i := hx; show w.heap.size ≤ i; omega)
    have k4 := k3.trans_new HK4.out (fun _ _ x => x.elim)
    have k5 := k4.trans_new hk5 (fun _ _ x => x.elim)
    exact k5.below (Nat.le_refl _) (fun x hx hs => by omega)
  clear hk5
  go_wp2_with fail
  go_ret
  exact ⟨rfl, HKW.out⟩
end Go.Proofs.Ytipcgjigkipcpaa
