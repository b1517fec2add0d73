/-
  The document's example of orders is as it says.
-/
import Derived.Test.YtipcgjigkipcpaaOrdMove
import Derived.Test.YtipcgjigkipcpaaIteNew
import Derived.Test.YtipcgjigkipcpaaMF
set_option linter.unusedVariables false
set_option linter.unusedSimpArgs false
set_option linter.unnecessarySimpa false
namespace Go.Proofs.Ytipcgjigkipcpaa
open Go.ChangeShapes Go.WideShapes Go.ChangeAt Go.RowKit Go.Deep NodePlain
theorem cost_le {V v : Int} (hv : 0 ≤ v) : costN V v ≤ 2 ^ V.toNat - 1 := by
  unfold costN
  have : 2 ^ (V - v).toNat ≤ 2 ^ V.toNat := Nat.pow_le_pow_right (by omega) (by omega)
  omega
set_option maxRecDepth 100000 in
set_option maxHeartbeats 3200000 in
theorem lives37_any (w : World) : Calls Try.prog 23 #[] w fun e w' => e = .returned (.bool true) ∧ Below w.heap.size w w' := by
  have H0 : Hid (Calls Try.prog 13 #[.int .i64 2, .int .i64 100] w fun e w' => ∃ db, e = .returned (.pointer (some ⟨db, 0, none⟩)) ∧ Hid (LM w db 2 100 st0 0 w')) := by
    refine (bnew_spec w 2 100 2 100 (by omega) (by omega) rfl ⟨by omega, rfl⟩).mono ?_
    rintro e w' ⟨db, Fp, rfl, h⟩
    exact ⟨db, rfl, Lib.hid ⟨Fp, h.out.1, h.out.2.1.below (Nat.le_refl _) (fun _ _ x => x), h.out.2.2⟩⟩
  obtain ⟨r1, hr1⟩ : ∃ r, opG st0 (makeM 2 100 st0 (0 : Nat) 0 1) = r := ⟨_, rfl⟩
  obtain ⟨f1, i1, n1, x1, v1⟩ := lit_fine (V := 2) (B := 100) (kc := 0) (st := st0) ⟨wf0 2, by show ((0 : Nat) : Int) ≤ 100; omega, fun e => by cases e⟩ (k := 2) (v := 0) rfl (by omega) (by show ((0 + 1 : Nat) : Int) < 100; omega) hr1
  have hn1 : r1.2.n ≤ 1 := by have : st0.n = 0 := rfl; omega
  have H1 : Hid (∀ db w1, LM w db 2 100 st0 0 w1 → Calls Try.prog 19 #[.pointer (some ⟨db, 0, none⟩), .int .i64 0] w1 fun e w2 => e = .returned (.int .i64 r1.1) ∧ Hid (LM w db 2 100 r1.2 1 w2)) := fun db w1 ⟨Fp, h, hb, hf⟩ => by
    have q := blit_spec h (wf0 2) (by omega) (v := 0) (by omega) (by omega) (by omega) (by omega)
    have q' : Calls Try.prog 19 #[.pointer (some ⟨db, 0, none⟩), .int .i64 0] w1 fun e W' => e = .returned (.int .i64 r1.1) ∧ Hid (BdTo db 2 100 r1.2 (0 + 1) w1 Fp W') := by rw [← hr1]; exact q
    refine q'.mono ?_
    rintro e w2 ⟨rfl, hx⟩
    obtain ⟨Fp', h2, m⟩ := hx.out
    exact ⟨rfl, Lib.hid (LM.next hb hf h2 m)⟩
  have hv0 := var_pos (V := 2) (by omega) f1.wf.ok.good r1.1
  have hc1 := cost_le (V := 2) hv0
  have H2 : Hid (∀ db w1, LM w db 2 100 r1.2 1 w1 → Calls Try.prog 21 #[.pointer (some ⟨db, 0, none⟩), .int .i64 r1.1, .slice (some ⟨w1.heap.size, 0, none⟩) 2 2] (w1.alloc (.cells #[.int .i64 1, .int .i64 0] 3)) fun e w2 => ∃ x r2 calls kc, e = .returned (.tuple #[.int .i64 x, .bool true]) ∧ Hid (LM w db 2 100 r2 calls w2) ∧
      Hid (0 ≤ calls ∧ calls ≤ 100 ∧ kc ≤ 100 ∧ Fine 2 100 kc r2 ∧ r2.n ≤ 20 ∧ isN r2.n x = true ∧ ∀ β, ev r2.L β x = β 1)) := fun db w1 ⟨Fp, h, hb, hf⟩ => by
    have hk1 : Keeps (fun _ => False) w1 (w1.alloc (.cells #[.int .i64 1, .int .i64 0] 3)) := (Keeps.refl _ _).alloc _
    have ha := (MapKept.heap_alloc w1 (.cells #[.int .i64 1, .int .i64 0] 3)).1
    have hrd : ReadsI (w1.alloc (.cells #[.int .i64 1, .int .i64 0] 3)) (.slice (some ⟨w1.heap.size, 0, none⟩) 2 2) [1, 0] := by
      refine ⟨_, 2, rfl, by simp, fun _ => ⟨w1.heap.size, 0, rfl, lt_of_heap ha, fun j x hx => ?_⟩⟩
      rw [cell_of_heap ha]
      match j, hx with
      | 0, hx => simp at hx; subst hx; rfl
      | 1, hx => simp at hx; subst hx; rfl
      | j + 2, hx => simp at hx
    have hp4 : 2 ^ (2 : Int).toNat = 4 := by decide
    have hroom : ((r1.2.n + 2 ^ (2 : Int).toNat * costN 2 (varN 2 r1.2.L r1.2.n r1.1) : Nat) : Int) < 100 := by rw [hp4] at hc1 ⊢; omega
    have q := omove_yes (h.quiet hk1) (by omega) (by omega) (k := 2) rfl i1 hrd (fun g off n cap e _ hg => by
      simp only [Value.slice.injEq, Option.some.injEq, Addr.mk.injEq] at e
      have := h.lt g hg
      omega) (by decide) f1.wf f1.bnd (by omega) (by omega) (by omega) hroom
    refine q.mono ?_
    rintro e w2 ⟨x, st', kc', calls', K', Fp', rfl, hB, hM, hR, hN⟩
    have e1 := hR.out.kc
    have e2 := hR.out.n
    have e3 := hN.out.2
    rw [hp4] at hc1 e2
    refine ⟨x, st', calls', kc', rfl, ?_, hN.out.1, by omega, by omega, ⟨hR.out.wf, hR.out.bnd⟩, by omega, hR.out.isx, fun β => ?_⟩
    · exact LM.next (hb.trans (hk1.below hb.size (fun _ _ x => x))) hf hB.out hM.out
    · rw [hR.out.ev β, v1]; rfl
  have H3 : Hid (∀ db w1 x r2 calls kc, 0 ≤ calls → calls ≤ 100 → kc ≤ 100 → Fine 2 100 kc r2 → r2.n ≤ 20 → isN r2.n x = true → (∀ β, ev r2.L β x = β 1) → LM w db 2 100 r2 calls w1 → Calls Try.prog 19 #[.pointer (some ⟨db, 0, none⟩), .int .i64 1] w1 fun e w2 => e = .returned (.int .i64 x) ∧ Below w.heap.size w w2) := fun db w1 x r2 calls kc hc0 hc1 hkc hF hn hx hev ⟨Fp, h, hb, hf⟩ => by
    have q := blit_spec h hF.wf (by omega) (v := 1) (by omega) (by omega) hc0 (by omega)
    obtain ⟨r3, hr3⟩ : ∃ r, opG r2 (makeM 2 100 r2 (1 : Nat) 0 1) = r := ⟨_, rfl⟩
    have q' : Calls Try.prog 19 #[.pointer (some ⟨db, 0, none⟩), .int .i64 1] w1 fun e W' => e = .returned (.int .i64 r3.1) ∧ Hid (BdTo db 2 100 r3.2 (calls + 1) w1 Fp W') := by rw [← hr3]; exact q
    obtain ⟨f3, i3, n3, x3, v3⟩ := lit_fine hF (k := 2) (v := 1) rfl (by omega) (by omega) hr3
    have hxx : r3.1 = x := once_bits f3.wf.ok.good 2 rfl i3 (x3.is hx) (fun j _ => by rw [v3, x3.ev hF.wf.ok.good _ (isN_iff.1 hx).2, hev])
    refine q'.mono ?_
    rintro e w2 ⟨rfl, hB⟩
    obtain ⟨Fp', h2, m⟩ := hB.out
    rw [hxx]
    exact ⟨rfl, hb.trans (m.keeps.below hb.size (fun k hk hy => by have := hf k hy; omega))⟩
  clear f1 i1 n1 x1 v1 hn1 hr1 hv0 hc1
  go_enter Try.func23, Try.ntmps23
  go_wp2_with fail
  refine H0.out.mono ?_
  rintro e w1 ⟨db, rfl, h1⟩
  go_wp2_with fail
  refine (H1.out _ _ h1.out).mono ?_
  rintro e w2 ⟨rfl, h2⟩
  go_wp2_with fail
  refine (H2.out _ _ h2.out).mono ?_
  rintro e w3 ⟨x, r2, calls, kc, rfl, h3, h4⟩
  go_wp2_with fail
  refine (H3.out _ _ x r2 calls kc h4.out.1 h4.out.2.1 h4.out.2.2.1 h4.out.2.2.2.1 h4.out.2.2.2.2.1 h4.out.2.2.2.2.2.1 h4.out.2.2.2.2.2.2 h3.out).mono ?_
  rintro e w4 ⟨rfl, hb⟩
  go_wp2_with fail
  go_ret
  exact ⟨rfl, hb⟩
end Go.Proofs.Ytipcgjigkipcpaa
