/-
 The document's Right of a query that may be.
-/
import Derived.Test.YtcdfpnlaklaafaaGreatStmRight
import Derived.Test.YtcdfpnlaklaafaaGreatDrillAsk
set_option linter.unusedVariables false
set_option linter.unusedSimpArgs false
set_option linter.unnecessarySimpa false
namespace Go.Proofs.YtcdfpnlaklaafaaGreat
open Go.ChangeShapes Go.WideShapes Go.ChangeAt Go.RowKit Go.Deep
set_option maxRecDepth 100000
set_option maxHeartbeats 3200000
theorem qryright_yes {s : Shp} {W : World} {v : Value} {q : Qry} (h : QryB s q) (hf : fitsD s = true) (hv : ReadsS W v q.2.2.2) : Calls Tryz.prog 42 #[qryV q v] W fun e W' => e = .returned (.bool true) ∧ Hid (Keeps (fun _ => False) W W') := by
 obtain ⟨k, ⟨a1, a2⟩, ⟨b1, b2⟩, wl⟩ := q
 obtain ⟨ha, hw, hr, hl, hk⟩ := h
 simp only at ha hw hr hl hk hv
 obtain ⟨ao, cap, rfl, hle, hrd⟩ := hv
 obtain ⟨n, hn⟩ : ∃ n, wl.length = n := ⟨_, rfl⟩
 rw [hn] at hle hrd hl ⊢
 have HR := Lib.hid hrd
 have HN := Lib.hid hn
 have HA : Hid (∀ w, Calls Tryz.prog 41 #[.agg #[.string ⟨a1.toArray⟩, .string ⟨a2.toArray⟩]] w fun e w' => e = .returned (.bool true) ∧ Hid (Keeps (fun _ => False) w w')) := fun w => isrole_b (r := (a1, a2)) ha hf
 have HW : Hid (∀ (i : Nat) (y : Str), wl[i]? = some y → ∀ w, Calls Tryz.prog 55 #[.string ⟨y.toArray⟩] w fun e w' => e = .returned (.bool true) ∧ w = w') := fun i y hy w => (ref_prin _ w).mono fun _ _ h => ⟨by rw [h.1, let_prin (hw y (List.mem_of_getElem? hy)) hf], h.2⟩
 have HS : Hid (∀ (i : Nat) (y z : Str), wl[i]? = some y → wl[i + 1]? = some z → Op.bytesLess y z = true) := fun i y z hy hz => by
  rw [Go.Proofs.bytesLess_eq]
  obtain ⟨h1, e1⟩ := List.getElem?_eq_some_iff.1 hy
  obtain ⟨h2, e2⟩ := List.getElem?_eq_some_iff.1 hz
  have := List.pairwise_iff_getElem.1 hr i (i + 1) h1 h2 (by omega)
  rw [e1, e2] at this
  exact decide_eq_true this
 have HB : Hid (RolB s (b1, b2) → ∀ w, Calls Tryz.prog 41 #[.agg #[.string ⟨b1.toArray⟩, .string ⟨b2.toArray⟩]] w fun e w' => e = .returned (.bool true) ∧ Hid (Keeps (fun _ => False) w w')) := fun hb w => isrole_b (r := (b1, b2)) hb hf
 have HKD : Hid ((((k = 1 ∨ k = 2) ∧ (b1, b2) = noRol ∧ 0 < n) ∨ (k = 3 ∧ (b1, b2) = noRol) ∨ (k = 4 ∧ (b1, b2) = noRol ∧ n = 0) ∨ ((k = 5 ∨ k = 6) ∧ RolB s (b1, b2) ∧ n = 0))) := by
  rw [hn] at hk
  rcases hk with q | q | q | q
  · exact .inl q
  · exact .inr (.inl q)
  · exact .inr (.inr (.inl ⟨q.1, q.2.1, by rw [← hn, q.2.2]; rfl⟩))
  · exact .inr (.inr (.inr ⟨q.1, q.2.1, by rw [← hn, q.2.2]; rfl⟩))
 have hk1 : ¬ k < 1 := by omega
 have hk6 : ¬ 6 < k := by omega
 clear ha hw hr hk hrd hn
 have hal := (MapKept.heap_alloc W (.cells #[.int .i64 k, .string ⟨a1.toArray⟩, .string ⟨a2.toArray⟩, .string ⟨b1.toArray⟩, .string ⟨b2.toArray⟩, .slice ao n cap] 49)).1
 obtain ⟨WA, hWA⟩ : ∃ q, W.alloc (.cells #[.int .i64 k, .string ⟨a1.toArray⟩, .string ⟨a2.toArray⟩, .string ⟨b1.toArray⟩, .string ⟨b2.toArray⟩, .slice ao n cap] 49) = q := ⟨_, rfl⟩
 have HK : Hid (Keeps (fun _ => False) W WA) := by rw [← hWA]; exact (Keeps.refl _ _).alloc _
 rw [hWA] at hal
 have HF : Hid (∀ w', Keeps (fun _ => False) WA w' → w'.cell? ⟨W.heap.size, 0, none⟩ = some (.int .i64 k) ∧ w'.cell? ⟨W.heap.size, 1, none⟩ = some (.string ⟨a1.toArray⟩) ∧ w'.cell? ⟨W.heap.size, 2, none⟩ = some (.string ⟨a2.toArray⟩) ∧ w'.cell? ⟨W.heap.size, 3, none⟩ = some (.string ⟨b1.toArray⟩) ∧ w'.cell? ⟨W.heap.size, 4, none⟩ = some (.string ⟨b2.toArray⟩) ∧ w'.cell? ⟨W.heap.size, 5, none⟩ = some (.slice ao n cap)) := fun w' hk => by
  have q1 := (hk.block _ (lt_of_heap hal) (fun x => x)).trans hal
  refine ⟨?_, ?_, ?_, ?_, ?_, ?_⟩ <;> (rw [cell_of_heap q1]; rfl)
 obtain ⟨c0, c1, c2, c3, c4, c5⟩ := HF.out _ (Keeps.refl _ _)
 clear hal
 unfold qryV
 simp only
 go_enter Tryz.func42, Tryz.ntmps42
 go_upto_region 1 with fail
 clear hWA
 go_wp2_with fail
 refine (HA.out _).mono ?_
 rintro e w1 ⟨rfl, hk⟩
 obtain ⟨d0, d1, d2, d3, d4, d5⟩ := HF.out _ hk.out
 have HK1 : Hid (Keeps (fun _ => False) W w1) := HK.out.trans hk.out
 have HF1 : Hid (∀ w', Keeps (fun _ => False) w1 w' → w'.cell? ⟨W.heap.size, 0, none⟩ = some (.int .i64 k) ∧ w'.cell? ⟨W.heap.size, 1, none⟩ = some (.string ⟨a1.toArray⟩) ∧ w'.cell? ⟨W.heap.size, 2, none⟩ = some (.string ⟨a2.toArray⟩) ∧ w'.cell? ⟨W.heap.size, 3, none⟩ = some (.string ⟨b1.toArray⟩) ∧ w'.cell? ⟨W.heap.size, 4, none⟩ = some (.string ⟨b2.toArray⟩) ∧ w'.cell? ⟨W.heap.size, 5, none⟩ = some (.slice ao n cap)) := fun w' h => HF.out _ (hk.out.trans h)
 clear c0 c1 c2 c3 c4 c5 hk HK HF HA
 go_wp2_with fail
 go_loopg [22] n (fun g t wx => ∃ i : Nat, i ≤ n ∧ g = n - i ∧ t = .int .i64 i ∧ wx = w1)
 case atStart => exact ⟨0, Nat.zero_le _, rfl, rfl, rfl⟩
 case round =>
  obtain ⟨i, hi, rfl, rfl, rfl⟩ := hrel
  by_cases hlt : i < n
  ·have hiI : (i : Int) < (n : Int) := by omega
   have hwi : IntKind.i64.wrap ((i : Int) + 1) = (i : Int) + 1 := IntWalk.i64_in _ (by omega)
   have hicap : i < cap := by omega
   obtain ⟨y, hy⟩ : ∃ y, wl[i]? = some y := ⟨_, List.getElem?_eq_getElem (by rw [HN.out]; exact hlt)⟩
   obtain ⟨g, off, rfl, hg, hcc⟩ := HR.out (by omega)
   have hc : wr.cell? ⟨g, off + i, none⟩ = some (.string ⟨y.toArray⟩) := (HK1.out.cell (p := ⟨g, off + i, none⟩) hg (fun x => x)).trans (hcc i y hy)
   have HP := Lib.hid (HW.out i y hy)
   rcases Nat.eq_zero_or_pos i with h0 | h0
   ·subst h0
    have h0I : ¬ (0 : Int) < ((0 : Nat) : Int) := by omega
    have hc' : wr.cell? ⟨g, off, none⟩ = some (.string ⟨y.toArray⟩) := hc
    clear hcc hy hc
    go_wp2_with fail
    refine (HP.out _).mono ?_
    rintro e w2 ⟨rfl, rfl⟩
    go_wp2_with fail
    go_roundg (n - (0 + 1))
    case measure => omega
    case rel => exact ⟨0 + 1, by omega, rfl, by go_num, rfl⟩
   ·obtain ⟨m, rfl⟩ : ∃ m, i = m + 1 := ⟨i - 1, by omega⟩
    have h0I : (0 : Int) < ((m + 1 : Nat) : Int) := by omega
    obtain ⟨x, hx⟩ : ∃ x, wl[m]? = some x := ⟨_, List.getElem?_eq_getElem (by rw [HN.out]; omega)⟩
    have hb := HS.out m x y hx hy
    have hcx : wr.cell? ⟨g, off + m, none⟩ = some (.string ⟨x.toArray⟩) := (HK1.out.cell (p := ⟨g, off + m, none⟩) hg (fun x => x)).trans (hcc m x hx)
    have hwm : IntKind.i64.wrap (((m + 1 : Nat) : Int) - 1) = (m : Int) := by rw [IntWalk.i64_in _ (by omega)]; omega
    have hmI : (m : Int) < (n : Int) := by omega
    have hmcap : m < cap := by omega
    clear hcc hy hx
    go_wp2_with fail
    refine (HP.out _).mono ?_
    rintro e w2 ⟨rfl, rfl⟩
    go_wp2_with fail
    go_roundg (n - (m + 1 + 1))
    case measure => omega
    case rel => exact ⟨m + 1 + 1, by omega, rfl, by go_num, rfl⟩
  ·obtain rfl : i = n := by omega
   have hiI : ¬ (i : Int) < (i : Int) := by omega
   have h12 : ¬ (12 : Int) < (i : Int) := by omega
   rcases HKD.out with ⟨hk, hb, h0⟩ | ⟨rfl, hb⟩ | ⟨rfl, hb, h0⟩ | ⟨hk, hb, h0⟩
   ·unfold noRol at hb
    simp only [Prod.mk.injEq] at hb
    obtain ⟨rfl, rfl⟩ := hb
    have h0I : (0 : Int) < (i : Int) := by omega
    rcases hk with rfl | rfl
    all_goals
     go_wp2_with fail
     go_ret
     exact ⟨rfl, HK1⟩
   ·unfold noRol at hb
    simp only [Prod.mk.injEq] at hb
    obtain ⟨rfl, rfl⟩ := hb
    go_wp2_with fail
    go_ret
    exact ⟨rfl, HK1⟩
   ·unfold noRol at hb
    simp only [Prod.mk.injEq] at hb
    obtain ⟨rfl, rfl⟩ := hb
    subst h0
    go_wp2_with fail
    go_ret
    exact ⟨rfl, HK1⟩
   ·have HBB := Lib.hid (HB.out hb)
    subst h0
    rcases hk with rfl | rfl
    all_goals
     clear HB hb
     go_wp2_with fail
     refine (HBB.out _).mono ?_
     rintro e w2 ⟨rfl, hk⟩
     obtain ⟨e0, e1, e2, e3, e4, e5⟩ := HF1.out _ hk.out
     have HE : Hid (Keeps (fun _ => False) W w2) := HK1.out.trans hk.out
     clear d0 d1 d2 d3 d4 d5 HK1 hk
     go_wp2_with fail
     go_ret
     exact ⟨rfl, HE⟩
end Go.Proofs.YtcdfpnlaklaafaaGreat
