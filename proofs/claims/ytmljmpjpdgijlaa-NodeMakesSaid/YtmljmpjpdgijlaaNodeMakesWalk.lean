/-
  The walk of the law NodeMakes.
-/
import Derived.Test.YtmljmpjpdgijlaaNodeBoth
import Derived.Deep.RegionWith
import Derived.Deep.RegionHeld3
set_option linter.unusedVariables false
set_option linter.unusedSimpArgs false
namespace Go.Proofs.Ytmljmpjpdgijlaa
open Go.ChangeShapes Go.WideShapes Go.ChangeAt Go.RowKit Go.Deep NodePlain

theorem budget_cases (v : Int) : ∃ B : Int, (v ≤ 0 ∧ B = 0) ∨ (0 < v ∧ B = v) := by
  by_cases h0 : v ≤ 0
  · exact ⟨0, .inl ⟨h0, rfl⟩⟩
  · exact ⟨v, .inr ⟨by omega, rfl⟩⟩

theorem num_range {V B : Int} {L : Nat → Nd} {n : Nat} {v lo hi : Int} : 0 ≤ (resN V B L n v lo hi).num n lo ∧ (resN V B L n v lo hi).num n lo < ((resN V B L n v lo hi).len n : Int) + 2 ∧ (resN V B L n v lo hi).len n ≤ n + 1 := by
  unfold resN
  split
  · rename_i hf
    obtain ⟨_, _, ⟨c1, c2⟩, _⟩ := fitN_iff.1 hf
    split
    · exact ⟨c1, c2, Nat.le_succ _⟩
    · split
      · rename_i i hi
        have := (idx_some hi).1
        simp only [Res.num, Res.len]; omega
      · split <;> simp only [Res.num, Res.len] <;> omega
  · simp only [Res.num, Res.len]; omega

set_option maxRecDepth 100000 in
set_option maxHeartbeats 3200000 in
theorem nodeMakes_core (w : World) (v V bu B : Int) (hV : (v ≤ 0 ∧ V = 0) ∨ (0 < v ∧ v ≤ 61 ∧ V = v) ∨ (61 < v ∧ V = 61)) (hB : (bu ≤ 0 ∧ B = 0) ∨ (0 < bu ∧ B = bu)) (ao : Option Addr) (n cap : Nat) (G : Nat → Nat → Value) (R : IsRow w [.int .i64, .int .i64, .int .i64] ao n cap G) :
    Calls Try.prog 7 #[.int .i64 v, .int .i64 bu, .slice ao n cap] w fun e w' => e = .returned (.bool true) ∧ Below w.heap.size w w' := by
  have hcap := R.le
  have hmax := R.max
  unfold maxLen at hmax
  obtain ⟨Z, hZ, hA⟩ := R.nodes
  have HZ := Lib.hid hZ; have HA := Lib.hid hA
  clear R hZ hA
  have HVV := Lib.hid hV; have HBB := Lib.hid hB
  have HV61 : Hid (V ≤ 61) := by show V ≤ 61; omega
  clear hV hB
  go_enter Try.func7, Try.ntmps7
  go_upto_region 1 with fail
  go_cut [2] (fun s wx => ∃ m : Nat, s = .slice ao m cap ∧ m ≤ n ∧ m ≤ 80 ∧ w = wx)
  case first =>
    go_wp2
    all_goals (go_meet; first | exact ⟨n, rfl, by omega, by omega, rfl⟩ | exact ⟨80, rfl, by omega, by omega, rfl⟩)
  case rest =>
    obtain ⟨m, rfl, hmn, hm80, rfl⟩ := hcut
    clear hcap
    go_wp2_with fail
    refine (newLive v bu V B HVV.out HBB.out _).mono ?_
    rintro e w1 ⟨rfl, t1⟩
    have T1 := Lib.hid t1
    clear t1
    go_wp2_with fail
    refine (refNew_any v bu V B HVV.out HBB.out _).mono ?_
    rintro e w2 ⟨rfl, t2, b2⟩
    have T2 := Lib.hid (TR.of_new (Nat.le_refl _) T1.out t2 b2)
    clear t2 b2 T1
    go_wp2_with fail
    go_loopg [32] m (fun g s wr => ∃ k : Nat, k ≤ m ∧ g = m - k ∧ s = .int .i64 k ∧ ∃ (L : Nat → Nd) (c : Nat) (s : Bool) (vr : Value), c ≤ k ∧ Hid (TR w.heap.size wr.heap.size w wr w.heap.size V B L c s w1.heap.size vr L c s))
    case atStart => exact ⟨0, Nat.zero_le _, rfl, rfl, fun _ => default, 0, false, .slice none 0 0, Nat.le_refl _, T2.out⟩
    case round =>
      clear T2
      obtain ⟨k, hk, rfl, rfl, L, c, s, vr, hck, ht⟩ := hrel
      by_cases hlt : k < m
      · obtain ⟨bl, off, rfl, hbl, hcells⟩ := HA.out (by omega)
        obtain ⟨r0, r1, r2⟩ := hcells k (by omega)
        obtain ⟨z0, z1, z2⟩ := HZ.out k (by omega)
        have hbb := ht.out.base
        rw [← hbb.cell (p := ⟨bl, _, none⟩) hbl] at r0 r1 r2
        obtain ⟨⟨v0, v1, v2⟩, hLi⟩ : ∃ p, p = Z k := ⟨_, rfl⟩
        rw [← hLi] at r0 r1 r2 z0 z1 z2
        simp only [] at r0 r1 r2 z0 z1 z2
        obtain ⟨z00, z01⟩ := z0; obtain ⟨z10, z11⟩ := z1; obtain ⟨z20, z21⟩ := z2
        clear hcells hLi hbb
        have HFP := Lib.hid ht.out.fp
        have HT1 := Lib.hid (ht.out.keeps (Nat.le_refl _) ((Keeps.refl (fun _ => False) wr).alloc (.cells #[.int .i64 v0, .int .i64 v1, .int .i64 v2] 58)))
        clear ht
        go_wp2_with fail
        refine (HT1.out.make (Nat.le_refl _) (by simp) (by omega) v0 v1 v2 z00 z01 z10 z11 z20 z21).mono ?_
        rintro e w3 ⟨rfl, t3, k3⟩
        have hz1 : wr.heap.size < w3.heap.size := by have := k3.size; simp at this; omega
        have q0 : w3.cell? ⟨wr.heap.size, 0, none⟩ = some (.int .i64 v0) := (k3.cell (p := ⟨wr.heap.size, 0, none⟩) (by simp) (by simp)).trans (by simp)
        have q1 : w3.cell? ⟨wr.heap.size, 1, none⟩ = some (.int .i64 v1) := (k3.cell (p := ⟨wr.heap.size, 1, none⟩) (by simp) (by simp)).trans (by simp)
        have q2 : w3.cell? ⟨wr.heap.size, 2, none⟩ = some (.int .i64 v2) := (k3.cell (p := ⟨wr.heap.size, 2, none⟩) (by simp) (by simp)).trans (by simp)
        have T3 := Lib.hid t3
        have K3 := Lib.hid k3
        clear t3 k3 HT1 r0 r1 r2
        obtain ⟨hn0, hn1, hn2⟩ := num_range (V := V) (B := B) (L := L) (n := c) (v := v0) (lo := v1) (hi := v2)
        generalize hr : resN V B L c v0 v1 v2 = r at T3 hn0 hn1 hn2 ⊢
        have Hr := Lib.hid hr
        clear hr
        go_wp2_with fail
        refine (T3.out.rmake (Nat.le_refl _) (Nat.le_refl _) (by omega) v0 v1 v2 z00 z01 z10 z11 z20 z21).mono ?_
        rintro e w4 ⟨rfl, ⟨vr4, t4⟩, k4⟩
        rw [Hr.out] at t4 ⊢
        have q0' : w4.cell? ⟨wr.heap.size, 0, none⟩ = some (.int .i64 v0) := (k4.cell (p := ⟨wr.heap.size, 0, none⟩) hz1 (fun h => Nat.lt_irrefl _ (HFP.out _ h))).trans q0
        have q1' : w4.cell? ⟨wr.heap.size, 1, none⟩ = some (.int .i64 v1) := (k4.cell (p := ⟨wr.heap.size, 1, none⟩) hz1 (fun h => Nat.lt_irrefl _ (HFP.out _ h))).trans q1
        have q2' : w4.cell? ⟨wr.heap.size, 2, none⟩ = some (.int .i64 v2) := (k4.cell (p := ⟨wr.heap.size, 2, none⟩) hz1 (fun h => Nat.lt_irrefl _ (HFP.out _ h))).trans q2
        have hz2 : wr.heap.size < w4.heap.size := Nat.lt_of_lt_of_le hz1 k4.size
        clear q0 q1 q2 k4 T3 K3 HFP hz1
        generalize Res.nodes L c (v0, v1, v2) r = L1 at t4
        generalize Res.len c r = n1 at t4 hn1 hn2
        generalize Res.out s r = s1 at t4
        generalize Res.num c v1 r = x1 at hn0 hn1 ⊢
        generalize r.err = e1
        have hn80 : n1 ≤ 81 := by omega
        obtain ⟨ao4, cap4, rfl, _, _, _⟩ := t4.ref.row
        -- the state from here on
        have KK : Hid (∀ W W', (W.cell? ⟨w1.heap.size, 0, none⟩ = some (.int .i64 V) ∧ W.cell? ⟨w1.heap.size, 2, none⟩ = some (.slice ao4 n1 cap4) ∧ W.cell? ⟨w1.heap.size, 3, none⟩ = some (.bool s1) ∧ W.cell? ⟨wr.heap.size, 1, none⟩ = some (.int .i64 v1) ∧ W.cell? ⟨wr.heap.size, 2, none⟩ = some (.int .i64 v2) ∧ Hid (wr.heap.size < W.heap.size ∧ TR w.heap.size w4.heap.size w W w.heap.size V B L1 n1 s1 w1.heap.size (.slice ao4 n1 cap4) L1 n1 s1)) → Keeps (fun _ => False) W W' →
            (W'.cell? ⟨w1.heap.size, 0, none⟩ = some (.int .i64 V) ∧ W'.cell? ⟨w1.heap.size, 2, none⟩ = some (.slice ao4 n1 cap4) ∧ W'.cell? ⟨w1.heap.size, 3, none⟩ = some (.bool s1) ∧ W'.cell? ⟨wr.heap.size, 1, none⟩ = some (.int .i64 v1) ∧ W'.cell? ⟨wr.heap.size, 2, none⟩ = some (.int .i64 v2) ∧ Hid (wr.heap.size < W'.heap.size ∧ TR w.heap.size w4.heap.size w W' w.heap.size V B L1 n1 s1 w1.heap.size (.slice ao4 n1 cap4) L1 n1 s1))) := by
          intro W W' ⟨h0, h2, h3, h4, h5, h6⟩ hk
          have hr : w1.heap.size < W.heap.size := lt_of_cell h0
          exact ⟨(hk.cell (p := ⟨w1.heap.size, 0, none⟩) hr (fun x => x)).trans h0, (hk.cell (p := ⟨w1.heap.size, 2, none⟩) hr (fun x => x)).trans h2, (hk.cell (p := ⟨w1.heap.size, 3, none⟩) hr (fun x => x)).trans h3,
            (hk.cell (p := ⟨wr.heap.size, 1, none⟩) h6.out.1 (fun x => x)).trans h4, (hk.cell (p := ⟨wr.heap.size, 2, none⟩) h6.out.1 (fun x => x)).trans h5, ⟨Nat.lt_of_lt_of_le h6.out.1 hk.size, h6.out.2.keeps (Nat.le_refl _) hk⟩⟩
        have S4 : w4.cell? ⟨w1.heap.size, 0, none⟩ = some (.int .i64 V) ∧ w4.cell? ⟨w1.heap.size, 2, none⟩ = some (.slice ao4 n1 cap4) ∧ w4.cell? ⟨w1.heap.size, 3, none⟩ = some (.bool s1) ∧ w4.cell? ⟨wr.heap.size, 1, none⟩ = some (.int .i64 v1) ∧ w4.cell? ⟨wr.heap.size, 2, none⟩ = some (.int .i64 v2) ∧ Hid (wr.heap.size < w4.heap.size ∧ TR w.heap.size w4.heap.size w w4 w.heap.size V B L1 n1 s1 w1.heap.size (.slice ao4 n1 cap4) L1 n1 s1) :=
          ⟨by rw [cell_of_heap t4.ref.obj]; rfl, by rw [cell_of_heap t4.ref.obj]; rfl, by rw [cell_of_heap t4.ref.obj]; rfl, q1', q2', ⟨hz2, t4⟩⟩
        clear t4 q0' q1' q2'
        have HS4 := Lib.hid S4
        clear S4
        have C1 : Hid (∀ (P1 P2 P3 P4 P5 : Prop) (W : World), (P1 ∧ P2 ∧ P3 ∧ P4 ∧ P5 ∧ Hid (wr.heap.size < W.heap.size ∧ TR w.heap.size w4.heap.size w W w.heap.size V B L1 n1 s1 w1.heap.size (.slice ao4 n1 cap4) L1 n1 s1)) → Calls Try.prog 34 #[.pointer (some ⟨w.heap.size, 0, none⟩)] W fun e w' => e = .returned (.int .i64 n1) ∧ Keeps (fun _ => False) W w') := fun _ _ _ _ _ W h => (h.2.2.2.2.2.out.2.len (by omega)).mono fun e w' hh => ⟨hh.1, by rw [← hh.2]; exact Keeps.refl _ _⟩
        have C2 : Hid (∀ (P1 P2 P3 P4 P5 : Prop) (W : World), (P1 ∧ P2 ∧ P3 ∧ P4 ∧ P5 ∧ Hid (wr.heap.size < W.heap.size ∧ TR w.heap.size w4.heap.size w W w.heap.size V B L1 n1 s1 w1.heap.size (.slice ao4 n1 cap4) L1 n1 s1)) → Calls Try.prog 35 #[.pointer (some ⟨w.heap.size, 0, none⟩)] W fun e w' => e = .returned (.bool s1) ∧ Keeps (fun _ => False) W w') := fun _ _ _ _ _ W h => (h.2.2.2.2.2.out.2.spent).mono fun e w' hh => ⟨hh.1, by rw [← hh.2]; exact Keeps.refl _ _⟩
        have C3 : Hid (∀ (P1 P2 P3 P4 P5 : Prop) (W : World), (P1 ∧ P2 ∧ P3 ∧ P4 ∧ P5 ∧ Hid (wr.heap.size < W.heap.size ∧ TR w.heap.size w4.heap.size w W w.heap.size V B L1 n1 s1 w1.heap.size (.slice ao4 n1 cap4) L1 n1 s1)) → Calls Try.prog 36 #[.pointer (some ⟨w.heap.size, 0, none⟩)] W fun e w' => e = .returned (.int .i64 V) ∧ Keeps (fun _ => False) W w') := fun _ _ _ _ _ W h => (h.2.2.2.2.2.out.2.vars).mono fun e w' hh => ⟨hh.1, by rw [← hh.2]; exact Keeps.refl _ _⟩
        have C4 : Hid (∀ (P1 P2 P3 P4 P5 : Prop) (W : World), (P1 ∧ P2 ∧ P3 ∧ P4 ∧ P5 ∧ Hid (wr.heap.size < W.heap.size ∧ TR w.heap.size w4.heap.size w W w.heap.size V B L1 n1 s1 w1.heap.size (.slice ao4 n1 cap4) L1 n1 s1)) → Calls Try.prog 37 #[.pointer (some ⟨w.heap.size, 0, none⟩), .int .i64 v1] W fun e w' => e = .returned (.bool (isN n1 v1)) ∧ Keeps (fun _ => False) W w') := fun _ _ _ _ _ W h => (h.2.2.2.2.2.out.2.is (by omega) v1 z11).mono fun e w' hh => ⟨hh.1, by rw [← hh.2]; exact Keeps.refl _ _⟩
        have C5 : Hid (∀ (P1 P2 P3 P4 P5 : Prop) (W : World), (P1 ∧ P2 ∧ P3 ∧ P4 ∧ P5 ∧ Hid (wr.heap.size < W.heap.size ∧ TR w.heap.size w4.heap.size w W w.heap.size V B L1 n1 s1 w1.heap.size (.slice ao4 n1 cap4) L1 n1 s1)) → Calls Try.prog 38 #[.pointer (some ⟨w1.heap.size, 0, none⟩), .int .i64 v1] W fun e w' => e = .returned (.bool (isN n1 v1)) ∧ Keeps (fun _ => False) W w') := fun _ _ _ _ _ W h => (ris_spec h.2.2.2.2.2.out.2.ref (by omega) v1 z11).mono fun e w' hh => ⟨hh.1, by rw [← hh.2]; exact Keeps.refl _ _⟩
        have C6 : Hid (∀ (P1 P2 P3 P4 P5 : Prop) (W : World), (P1 ∧ P2 ∧ P3 ∧ P4 ∧ P5 ∧ Hid (wr.heap.size < W.heap.size ∧ TR w.heap.size w4.heap.size w W w.heap.size V B L1 n1 s1 w1.heap.size (.slice ao4 n1 cap4) L1 n1 s1)) → Calls Try.prog 39 #[.pointer (some ⟨w.heap.size, 0, none⟩), .int .i64 v2] W fun e w' => e = .returned (.int .i64 (varN V L1 n1 v2)) ∧ Keeps (fun _ => False) W w') := fun _ _ _ _ _ W h => (h.2.2.2.2.2.out.2.var (by omega) v2 z20 z21).mono fun e w' hh => ⟨hh.1, Keeps.of_below hh.2 (Nat.le_refl _)⟩
        have C7 : Hid (∀ (P1 P2 P3 P4 P5 : Prop) (W : World), (P1 ∧ P2 ∧ P3 ∧ P4 ∧ P5 ∧ Hid (wr.heap.size < W.heap.size ∧ TR w.heap.size w4.heap.size w W w.heap.size V B L1 n1 s1 w1.heap.size (.slice ao4 n1 cap4) L1 n1 s1)) → Calls Try.prog 40 #[.pointer (some ⟨w1.heap.size, 0, none⟩), .int .i64 v2] W fun e w' => e = .returned (.int .i64 (varN V L1 n1 v2)) ∧ Keeps (fun _ => False) W w') := fun _ _ _ _ _ W h => (rvar_spec h.2.2.2.2.2.out.2.ref (by omega) v2 z20 z21).mono fun e w' hh => ⟨hh.1, by rw [← hh.2]; exact Keeps.refl _ _⟩
        generalize isN n1 v1 = il at C4 C5
        generalize varN V L1 n1 v2 = vh at C6 C7
        go_upto_region 10 with fail
        go_cut [116] (fun t wx => t = .bool false ∧ Hid (wx.cell? ⟨w1.heap.size, 0, none⟩ = some (.int .i64 V) ∧ wx.cell? ⟨w1.heap.size, 2, none⟩ = some (.slice ao4 n1 cap4) ∧ wx.cell? ⟨w1.heap.size, 3, none⟩ = some (.bool s1) ∧ wx.cell? ⟨wr.heap.size, 1, none⟩ = some (.int .i64 v1) ∧ wx.cell? ⟨wr.heap.size, 2, none⟩ = some (.int .i64 v2) ∧ Hid (wr.heap.size < wx.heap.size ∧ TR w.heap.size w4.heap.size w wx w.heap.size V B L1 n1 s1 w1.heap.size (.slice ao4 n1 cap4) L1 n1 s1)))
        case first =>
          go_region_held3 (fun w' => (w'.cell? ⟨w1.heap.size, 0, none⟩ = some (.int .i64 V) ∧ w'.cell? ⟨w1.heap.size, 2, none⟩ = some (.slice ao4 n1 cap4) ∧ w'.cell? ⟨w1.heap.size, 3, none⟩ = some (.bool s1) ∧ w'.cell? ⟨wr.heap.size, 1, none⟩ = some (.int .i64 v1) ∧ w'.cell? ⟨wr.heap.size, 2, none⟩ = some (.int .i64 v2) ∧ Hid (wr.heap.size < w'.heap.size ∧ TR w.heap.size w4.heap.size w w' w.heap.size V B L1 n1 s1 w1.heap.size (.slice ao4 n1 cap4) L1 n1 s1))) (first | exact KK.out _ _ (by assumption) hk' | exact KK.out _ _ HS4.out ((Keeps.refl _ _).drew)) ((first | (go_at_call 34; refine (C1.out _ _ _ _ _ _ (by assumption)).mono ?_; rintro e w' ⟨rfl, hk'⟩) | (go_at_call 35; refine (C2.out _ _ _ _ _ _ (by assumption)).mono ?_; rintro e w' ⟨rfl, hk'⟩) | (go_at_call 36; refine (C3.out _ _ _ _ _ _ (by assumption)).mono ?_; rintro e w' ⟨rfl, hk'⟩) | (go_at_call 37; refine (C4.out _ _ _ _ _ _ (by assumption)).mono ?_; rintro e w' ⟨rfl, hk'⟩) | (go_at_call 38; refine (C5.out _ _ _ _ _ _ (by assumption)).mono ?_; rintro e w' ⟨rfl, hk'⟩) | (go_at_call 39; refine (C6.out _ _ _ _ _ _ (by assumption)).mono ?_; rintro e w' ⟨rfl, hk'⟩) | (go_at_call 40; refine (C7.out _ _ _ _ _ _ (by assumption)).mono ?_; rintro e w' ⟨rfl, hk'⟩)))
          all_goals (go_wp2_with fail; go_meet; rename_i hh; exact ⟨rfl, hh⟩)
        case rest =>
          obtain ⟨rfl, hS⟩ := hcut
          obtain ⟨d0, d2, d3, d4, d5, d6⟩ := hS.out
          have T5 := Lib.hid d6.out.2
          clear d0 d3 d4 d5 d6 hS KK HS4 C1 C2 C3 C4 C5 C6 C7 hz2
          have hV61 := HV61.out
          go_wp2_with fail
          refine (T5.out.get (by omega) x1 (by omega) (by omega)).mono ?_
          rintro e w5 ⟨rfl, hb5⟩
          have T6 := Lib.hid (T5.out.keeps (Nat.le_refl _) (Keeps.of_below (S := fun _ => False) hb5 (Nat.le_refl _)))
          have hrz : w1.heap.size < wc.heap.size := lt_of_cell d2
          have d2' : w5.cell? ⟨w1.heap.size, 2, none⟩ = some (.slice ao4 n1 cap4) := (hb5.cell (p := ⟨w1.heap.size, 2, none⟩) hrz).trans d2
          have hrz5 : w1.heap.size < w5.heap.size := Nat.lt_of_lt_of_le hrz hb5.size
          clear hb5 d2 hrz T5
          by_cases hx : 2 ≤ x1
          · have hg : getN L1 n1 x1 = some (L1 (x1 - 2).toNat) := by unfold getN; rw [if_pos ⟨hx, hn1⟩]
            obtain ⟨i, rfl⟩ : ∃ i : Nat, x1 = i + 2 := ⟨(x1 - 2).toNat, by omega⟩
            have hin : i < n1 := by omega
            rw [hg, show ((i : Int) + 2 - 2).toNat = i from by omega]
            obtain ⟨ao5, cap5, hv5, _, hmx5, hrw⟩ := T6.out.ref.row
            cases hv5
            unfold maxLen at hmx5
            obtain ⟨gb, rfl, hgb, hrow⟩ := hrw (by omega)
            obtain ⟨r0, r1, r2⟩ := hrow i hin
            obtain ⟨⟨g0, g1, g2⟩, hLi⟩ : ∃ p, p = L1 i := ⟨_, rfl⟩
            rw [← hLi] at r0 r1 r2 ⊢
            simp only [] at r0 r1 r2
            simp only [ndCells, Option.getD_some, Option.isSome_some]
            clear hrow hrw hg hLi hx
            have hmn : (i : Int) < (n1 : Int) := by omega
            have hsub : IntKind.i64.wrap ((i : Int) + 2 - 2) = i := (IntWalk.i64_in _ (by omega)).trans (by omega)
            have hmI : (i : Int) ≤ 1000000000000 := by omega
            have hwk : IntKind.u64.wrap (k : Int) = k := IntWalk.u64_in _ (by omega)
            have h2i : (2 : Int) ≤ (i : Int) + 2 := by omega
            have hsub' : IntKind.i64.wrap (i : Int) = i := IntWalk.i64_in _ (by omega)
            have hi0 : (0 : Int) ≤ (i : Int) := by omega
            have hwk0 : (0 : Int) ≤ (k : Int) := by omega
            have hwk1 : (k : Int) ≤ 80 := by omega
            have heq := fun W => node_neq g0 g1 g2 W
            have hB0 : ((w5.alloc (.cells #[.int .i64 g0, .int .i64 g1, .int .i64 g2] 58)).cell? ⟨w1.heap.size, 2, none⟩ = some (.slice (some ⟨gb, 0, none⟩) n1 cap4) ∧ (w5.alloc (.cells #[.int .i64 g0, .int .i64 g1, .int .i64 g2] 58)).cell? ⟨w5.heap.size, 0, none⟩ = some (.int .i64 g0) ∧ (w5.alloc (.cells #[.int .i64 g0, .int .i64 g1, .int .i64 g2] 58)).cell? ⟨w5.heap.size, 1, none⟩ = some (.int .i64 g1) ∧ (w5.alloc (.cells #[.int .i64 g0, .int .i64 g1, .int .i64 g2] 58)).cell? ⟨w5.heap.size, 2, none⟩ = some (.int .i64 g2) ∧ (w5.alloc (.cells #[.int .i64 g0, .int .i64 g1, .int .i64 g2] 58)).cell? ⟨gb, i * 3, none⟩ = some (.int .i64 g0) ∧ (w5.alloc (.cells #[.int .i64 g0, .int .i64 g1, .int .i64 g2] 58)).cell? ⟨gb, i * 3 + 1, none⟩ = some (.int .i64 g1) ∧ (w5.alloc (.cells #[.int .i64 g0, .int .i64 g1, .int .i64 g2] 58)).cell? ⟨gb, i * 3 + 2, none⟩ = some (.int .i64 g2) ∧ Hid (gb < (w5.alloc (.cells #[.int .i64 g0, .int .i64 g1, .int .i64 g2] 58)).heap.size ∧ w5.heap.size < (w5.alloc (.cells #[.int .i64 g0, .int .i64 g1, .int .i64 g2] 58)).heap.size ∧ TR w.heap.size w4.heap.size w (w5.alloc (.cells #[.int .i64 g0, .int .i64 g1, .int .i64 g2] 58)) w.heap.size V B L1 n1 s1 w1.heap.size (.slice (some ⟨gb, 0, none⟩) n1 cap4) L1 n1 s1)) :=
              ⟨by simp [go_sem, World.cell?_alloc_past, *], by simp, by simp, by simp, by simp [go_sem, World.cell?_alloc_past, *], by simp [go_sem, World.cell?_alloc_past, *], by simp [go_sem, World.cell?_alloc_past, *], ⟨by simp; omega, by simp, T6.out.keeps (Nat.le_refl _) ((Keeps.refl _ _).alloc _)⟩⟩
            have HB0 := Lib.hid hB0
            have KB : Hid (∀ W W', (W.cell? ⟨w1.heap.size, 2, none⟩ = some (.slice (some ⟨gb, 0, none⟩) n1 cap4) ∧ W.cell? ⟨w5.heap.size, 0, none⟩ = some (.int .i64 g0) ∧ W.cell? ⟨w5.heap.size, 1, none⟩ = some (.int .i64 g1) ∧ W.cell? ⟨w5.heap.size, 2, none⟩ = some (.int .i64 g2) ∧ W.cell? ⟨gb, i * 3, none⟩ = some (.int .i64 g0) ∧ W.cell? ⟨gb, i * 3 + 1, none⟩ = some (.int .i64 g1) ∧ W.cell? ⟨gb, i * 3 + 2, none⟩ = some (.int .i64 g2) ∧ Hid (gb < W.heap.size ∧ w5.heap.size < W.heap.size ∧ TR w.heap.size w4.heap.size w W w.heap.size V B L1 n1 s1 w1.heap.size (.slice (some ⟨gb, 0, none⟩) n1 cap4) L1 n1 s1)) → Keeps (fun _ => False) W W' → (W'.cell? ⟨w1.heap.size, 2, none⟩ = some (.slice (some ⟨gb, 0, none⟩) n1 cap4) ∧ W'.cell? ⟨w5.heap.size, 0, none⟩ = some (.int .i64 g0) ∧ W'.cell? ⟨w5.heap.size, 1, none⟩ = some (.int .i64 g1) ∧ W'.cell? ⟨w5.heap.size, 2, none⟩ = some (.int .i64 g2) ∧ W'.cell? ⟨gb, i * 3, none⟩ = some (.int .i64 g0) ∧ W'.cell? ⟨gb, i * 3 + 1, none⟩ = some (.int .i64 g1) ∧ W'.cell? ⟨gb, i * 3 + 2, none⟩ = some (.int .i64 g2) ∧ Hid (gb < W'.heap.size ∧ w5.heap.size < W'.heap.size ∧ TR w.heap.size w4.heap.size w W' w.heap.size V B L1 n1 s1 w1.heap.size (.slice (some ⟨gb, 0, none⟩) n1 cap4) L1 n1 s1))) := by
              intro W W' ⟨h0, h1, h2, h3, h4, h5, h6, h7⟩ hk
              have hr : w1.heap.size < W.heap.size := lt_of_cell h0
              exact ⟨(hk.cell (p := ⟨w1.heap.size, 2, none⟩) hr (fun x => x)).trans h0, (hk.cell (p := ⟨w5.heap.size, 0, none⟩) h7.out.2.1 (fun x => x)).trans h1, (hk.cell (p := ⟨w5.heap.size, 1, none⟩) h7.out.2.1 (fun x => x)).trans h2, (hk.cell (p := ⟨w5.heap.size, 2, none⟩) h7.out.2.1 (fun x => x)).trans h3,
                (hk.cell (p := ⟨gb, i * 3, none⟩) h7.out.1 (fun x => x)).trans h4, (hk.cell (p := ⟨gb, i * 3 + 1, none⟩) h7.out.1 (fun x => x)).trans h5, (hk.cell (p := ⟨gb, i * 3 + 2, none⟩) h7.out.1 (fun x => x)).trans h6, ⟨Nat.lt_of_lt_of_le h7.out.1 hk.size, Nat.lt_of_lt_of_le h7.out.2.1 hk.size, h7.out.2.2.keeps (Nat.le_refl _) hk⟩⟩
            have A1 : Hid (∀ (P1 P2 P3 P4 P5 P6 P7 : Prop) (W : World), (P1 ∧ P2 ∧ P3 ∧ P4 ∧ P5 ∧ P6 ∧ P7 ∧ Hid (gb < W.heap.size ∧ w5.heap.size < W.heap.size ∧ TR w.heap.size w4.heap.size w W w.heap.size V B L1 n1 s1 w1.heap.size (.slice (some ⟨gb, 0, none⟩) n1 cap4) L1 n1 s1)) → Calls Try.prog 42 #[.pointer (some ⟨w.heap.size, 0, none⟩), .int .i64 ((i : Int) + 2), .int .u64 k] W fun e w' => e = .returned (.bool (isN n1 ((i : Int) + 2) && ev L1 (Nat.testBit k) ((i : Int) + 2))) ∧ Keeps (fun _ => False) W w') := fun _ _ _ _ _ _ _ W h => (h.2.2.2.2.2.2.2.out.2.2.at hV61 (by omega) ((i : Int) + 2) (by omega) (by omega) k (by omega)).mono fun e w' hh => ⟨hh.1, Keeps.of_below hh.2 (Nat.le_refl _)⟩
            have A2 : Hid (∀ (P1 P2 P3 P4 P5 P6 P7 : Prop) (W : World), (P1 ∧ P2 ∧ P3 ∧ P4 ∧ P5 ∧ P6 ∧ P7 ∧ Hid (gb < W.heap.size ∧ w5.heap.size < W.heap.size ∧ TR w.heap.size w4.heap.size w W w.heap.size V B L1 n1 s1 w1.heap.size (.slice (some ⟨gb, 0, none⟩) n1 cap4) L1 n1 s1)) → Calls Try.prog 43 #[.pointer (some ⟨w1.heap.size, 0, none⟩), .int .i64 ((i : Int) + 2), .int .u64 k] W fun e w' => e = .returned (.bool (isN n1 ((i : Int) + 2) && ev L1 (Nat.testBit k) ((i : Int) + 2))) ∧ Keeps (fun _ => False) W w') := fun _ _ _ _ _ _ _ W h => (rat_spec k (by omega) (by omega) hV61 h.2.2.2.2.2.2.2.out.2.2.good (i + 3) ((i : Int) + 2) (by omega) (by omega) (by omega) W h.2.2.2.2.2.2.2.out.2.2.ref).mono fun e w' hh => ⟨hh.1, Keeps.of_below hh.2 (Nat.le_refl _)⟩
            generalize (isN n1 ((i : Int) + 2) && ev L1 (Nat.testBit k) ((i : Int) + 2)) = at1 at A1 A2
            clear hB0 r0 r1 r2 d2' hgb T6 hrz5
            go_upto_region 13 with fail
            go_cut [154] (fun t wx => t = .bool false ∧ Hid (∃ vr, TR w.heap.size w4.heap.size w wx w.heap.size V B L1 n1 s1 w1.heap.size vr L1 n1 s1))
            case first =>
              clear HA HZ HVV HBB HV61
              go_region_held3 (fun w' => (w'.cell? ⟨w1.heap.size, 2, none⟩ = some (.slice (some ⟨gb, 0, none⟩) n1 cap4) ∧ w'.cell? ⟨w5.heap.size, 0, none⟩ = some (.int .i64 g0) ∧ w'.cell? ⟨w5.heap.size, 1, none⟩ = some (.int .i64 g1) ∧ w'.cell? ⟨w5.heap.size, 2, none⟩ = some (.int .i64 g2) ∧ w'.cell? ⟨gb, i * 3, none⟩ = some (.int .i64 g0) ∧ w'.cell? ⟨gb, i * 3 + 1, none⟩ = some (.int .i64 g1) ∧ w'.cell? ⟨gb, i * 3 + 2, none⟩ = some (.int .i64 g2) ∧ Hid (gb < w'.heap.size ∧ w5.heap.size < w'.heap.size ∧ TR w.heap.size w4.heap.size w w' w.heap.size V B L1 n1 s1 w1.heap.size (.slice (some ⟨gb, 0, none⟩) n1 cap4) L1 n1 s1))) (first | exact KB.out _ _ (by assumption) hk' | exact KB.out _ _ HB0.out ((Keeps.refl _ _).drew)) ((first | (go_at_call 42; refine (A1.out _ _ _ _ _ _ _ _ (by assumption)).mono ?_; rintro e w' ⟨rfl, hk'⟩) | (go_at_call 43; refine (A2.out _ _ _ _ _ _ _ _ (by assumption)).mono ?_; rintro e w' ⟨rfl, hk'⟩)))
              all_goals (go_wp2_with fail; go_meet; rename_i hh; exact ⟨rfl, _, hh.2.2.2.2.2.2.2.out.2.2⟩)
            case rest =>
              obtain ⟨rfl, hT⟩ := hcut
              obtain ⟨vr7, t7⟩ := hT.out
              have T7 := Lib.hid t7.tight
              clear t7 hT
              go_wp2_with fail
              go_roundg (m - (k + 1))
              case measure => omega
              case rel => exact ⟨k + 1, by omega, rfl, by go_num, L1, n1, s1, vr7, by omega, T7.out⟩
          · have hg : getN L1 n1 x1 = none := by unfold getN; rw [if_neg (by omega)]
            rw [hg]
            clear hg
            simp only [ndCells, Option.getD_none, Option.isSome_none]
            have hx' : x1 < 2 := by omega
            have hdx : decide (2 ≤ x1) = false := by simp; omega
            have hwk : IntKind.u64.wrap (k : Int) = k := IntWalk.u64_in _ (by omega)
            have hwk0 : (0 : Int) ≤ (k : Int) := by omega
            have hwk1 : (k : Int) ≤ 80 := by omega
            have T6' : Hid (∀ o, Hid (TR w.heap.size w4.heap.size w (w5.alloc o) w.heap.size V B L1 n1 s1 w1.heap.size (.slice ao4 n1 cap4) L1 n1 s1)) := fun o => T6.out.keeps (Nat.le_refl _) ((Keeps.refl _ _).alloc _)
            clear d2' T6 hrz5 hx
            go_upto_region 13 with fail
            generalize hw6 : w5.alloc (.cells #[.int .i64 0, .int .i64 0, .int .i64 0] 58) = w6
            have T7 := T6'.out (.cells #[.int .i64 0, .int .i64 0, .int .i64 0] 58)
            rw [hw6] at T7
            clear hw6 T6'
            have A1 : Hid (∀ (W : World), Keeps (fun _ => False) w6 W → Calls Try.prog 42 #[.pointer (some ⟨w.heap.size, 0, none⟩), .int .i64 x1, .int .u64 k] W fun e w' => e = .returned (.bool (decide (x1 = 1))) ∧ w' = W) := fun W h => (T7.out.keeps (Nat.le_refl _) h).at_low (by omega) x1 (by omega) (by omega) k
            have A2 : Hid (∀ (W : World), Keeps (fun _ => False) w6 W → Calls Try.prog 43 #[.pointer (some ⟨w1.heap.size, 0, none⟩), .int .i64 x1, .int .u64 k] W fun e w' => e = .returned (.bool (decide (x1 = 1))) ∧ w' = W) := fun W h => (T7.out.keeps (Nat.le_refl _) h).rat_low (by omega) x1 (by omega) (by omega) k
            generalize decide (x1 = 1) = at1 at A1 A2
            go_cut [154] (fun t wx => t = .bool false ∧ Hid (∃ vr, TR w.heap.size w4.heap.size w wx w.heap.size V B L1 n1 s1 w1.heap.size vr L1 n1 s1))
            case first =>
              clear HA HZ HVV HBB HV61
              go_quiet ((first | (go_at_call 42; exact Calls.quiet_of_same (A1.out _ (by first | exact Keeps.refl _ _ | exact (Keeps.refl _ _).drewN _ | exact (Keeps.refl _ _).drew))) | (go_at_call 43; exact Calls.quiet_of_same (A2.out _ (by first | exact Keeps.refl _ _ | exact (Keeps.refl _ _).drewN _ | exact (Keeps.refl _ _).drew)))))
              go_wp2_with fail
              go_meet
              exact ⟨rfl, _, T7.out.keeps (Nat.le_refl _) ((Keeps.refl _ _).drewN nq)⟩
            case rest =>
              obtain ⟨rfl, hT⟩ := hcut
              obtain ⟨vr7, t7⟩ := hT.out
              have T7 := Lib.hid t7.tight
              clear t7 hT
              go_wp2_with fail
              go_roundg (m - (k + 1))
              case measure => omega
              case rel => exact ⟨k + 1, by omega, rfl, by go_num, L1, n1, s1, vr7, by omega, T7.out⟩
      · go_wp2_with fail
        refine (lives_any _).mono ?_
        rintro e w3 ⟨rfl, hb⟩
        go_wp2
        go_ret
        exact ⟨rfl, ht.out.base.trans (hb.mono (ht.out.size (Nat.le_refl _)))⟩
theorem nodeMakes_walk (w : World) (v : Int) (hv0 : -9223372036854775808 ≤ v) (hv1 : v ≤ 9223372036854775807) (bu : Int) (hb0 : -9223372036854775808 ≤ bu) (hb1 : bu ≤ 9223372036854775807) (ao : Option Addr) (n cap : Nat) (G : Nat → Nat → Value) (R : IsRow w [.int .i64, .int .i64, .int .i64] ao n cap G) :
    Calls Try.prog 7 #[.int .i64 v, .int .i64 bu, .slice ao n cap] w fun e w' => e = .returned (.bool true) ∧ Below w.heap.size w w' := by
  obtain ⟨V, hV⟩ := int_cases v
  obtain ⟨B, hB⟩ := budget_cases bu
  exact nodeMakes_core w v V bu B hV hB ao n cap G R
end Go.Proofs.Ytmljmpjpdgijlaa
