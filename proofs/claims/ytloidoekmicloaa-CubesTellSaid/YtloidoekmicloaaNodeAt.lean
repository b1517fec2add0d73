/-
  At: where a diagram is true.
-/
import Derived.Test.YtloidoekmicloaaMB
set_option linter.unusedVariables false
set_option linter.unusedSimpArgs false
namespace Go.Proofs.Ytloidoekmicloaa
open Go.ChangeShapes Go.WideShapes Go.ChangeAt Go.RowKit Go.Deep NodePlain

/-- The bit that is asked. -/
theorem shr_test (X v : Nat) (hX : X < 18446744073709551616) : (bits BinOp.and IntKind.u64 ((X : Int) / 2 ^ v) 1 == 1) = X.testBit v := by
  have e1 : ((X : Int) / 2 ^ v) = ((X / 2 ^ v : Nat) : Int) := by simp
  have hle : X / 2 ^ v < 18446744073709551616 := Nat.lt_of_le_of_lt (Nat.div_le_self _ _) hX
  have e2 := u64_and_nat (X / 2 ^ v) 1 hle (by decide)
  rw [e1]
  rw [show (1 : Int) = ((1 : Nat) : Int) from rfl, e2, Nat.and_one_is_mod, Nat.testBit_eq_decide_div_mod_eq]
  rw [Bool.eq_iff_iff]
  simp
  omega

section
variable {w : World} {b bp M : Nat} {vn : Value} {V B : Int} {L : Nat → Nd} {n : Nat} {P : Nat → Nat} {s : Bool}

def AtPost (r : Bool) (w : World) (e : Ending) (w' : World) : Prop := e = .returned (.bool r) ∧ Below w.heap.size w w'

set_option maxRecDepth 100000 in
set_option maxHeartbeats 1600000 in
theorem tat_spec (h : TabMem w b bp M vn V B L n P s) (g : NodePlain.Good V L n) (hV : V ≤ 61) (hn : n ≤ 1000000000000) (k : Int) (hk0 : -9223372036854775808 ≤ k) (hk : k ≤ 9223372036854775807) (X : Nat) (hX : X < 18446744073709551616) :
    Calls Try.prog 42 #[.pointer (some ⟨b, 0, none⟩), .int .i64 k, .int .u64 X] w (AtPost (isN n k && ev L X.testBit k) w) := by
  have hi := tis_spec h hn k hk
  obtain ⟨ao, cap, rfl, hle, hmx, hrow⟩ := h.row
  have c2 : w.cell? ⟨b, 2, none⟩ = some (.slice ao n cap) := by rw [cell_of_heap h.obj]; rfl
  have lb : b < w.heap.size := lt_of_heap h.obj
  have HI := Lib.hid hi; have HR := Lib.hid hrow; have HG := Lib.hid g; have HX := Lib.hid hX; have Hk := Lib.hid hk0; have Hk' := Lib.hid hk
  clear hi hrow g hmx h hX hk0 hk
  by_cases hin : isN n k = true
  · rw [hin, Bool.true_and]
    have hin' : 0 ≤ k ∧ k < n + 2 := by simpa [isN] using hin
    rw [hin] at HI
    go_enter Try.func42, Try.ntmps42
    go_wp2_with (go_at_call 52; refine HI.out.mono ?_; rintro e w' ⟨rfl, rfl⟩)
    go_loopw [1] (fun k' wr => ∃ m : Nat, m < n + 2 ∧ k' = .int .i64 m ∧ Hid (ev L X.testBit k = ev L X.testBit m) ∧ Below w.heap.size w wr) (fun k' _ => (intOf k').toNat)
    case atStart => exact ⟨k.toNat, by omega, by go_num, by show ev L X.testBit k = ev L X.testBit (k.toNat : Int); rw [Int.toNat_of_nonneg hin'.1], Below.refl _ _⟩
    case round =>
      clear hin hin'
      obtain ⟨m, hm, rfl, hev, hb⟩ := hrel
      have d2 := (hb.cell (p := ⟨b, 2, none⟩) lb).trans c2
      by_cases h2 : 2 ≤ m
      · obtain ⟨i, rfl⟩ : ∃ i, m = i + 2 := ⟨m - 2, by omega⟩
        obtain ⟨gb, rfl, hgb, hrw⟩ := HR.out (by omega)
        obtain ⟨r0, r1, r2⟩ := hrw i (by omega)
        rw [← hb.cell (p := ⟨gb, _, none⟩) hgb] at r0 r1 r2
        obtain ⟨p1, p2, p3, p4, p5, p6, _⟩ := HG.out.node i (by omega)
        have hnode := ev_node HG.out X.testBit i (by omega)
        have Hnode := Lib.hid hnode
        obtain ⟨⟨a0, a1, a2⟩, hLi⟩ : ∃ p, p = L i := ⟨_, rfl⟩
        rw [← hLi] at r0 r1 r2 p1 p2 p3 p4 p5 p6 Hnode
        simp only [] at r0 r1 r2 p1 p2 p3 p4 p5 p6
        have hmn : (i : Int) < (n : Int) := by omega
        have hmI : (i : Int) ≤ 1000000000000 := by omega
        have hii : ((i + 2 : Nat) : Int) = (i : Int) + 2 := by omega
        rw [hii]
        clear hrw hnode hLi hn
        have ht := shr_test X a0.toNat HX.out
        have Ht := Lib.hid ht; clear ht
        go_wp2
        · have hy : (bits BinOp.and IntKind.u64 ((X : Int) / 2 ^ a0.toNat) 1 == 1) = true := by assumption
          go_roundw
          case rel => exact ⟨a2.toNat, by omega, by go_num, by show ev L X.testBit k = ev L X.testBit (a2.toNat : Int); rw [Int.toNat_of_nonneg p5, hev.out, hii, Hnode.out, ← Ht.out, hy]; rfl, hb.alloc hb.size _⟩
          case measure => simp [intOf]; omega
        · have hy : (bits BinOp.and IntKind.u64 ((X : Int) / 2 ^ a0.toNat) 1 == 1) = false := by first | assumption | (have h0 : ¬ (bits BinOp.and IntKind.u64 ((X : Int) / 2 ^ a0.toNat) 1 == 1) = true := by assumption; simpa using h0)
          go_roundw
          case rel => exact ⟨a1.toNat, by omega, by go_num, by show ev L X.testBit k = ev L X.testBit (a1.toNat : Int); rw [Int.toNat_of_nonneg p3, hev.out, hii, Hnode.out, ← Ht.out, hy]; rfl, hb.alloc hb.size _⟩
          case measure => simp [intOf]; omega
      · go_wp2
        go_ret
        exact ⟨by rw [hev.out, ev_low L _ _ (by omega)]; rfl, hb⟩
  · have hin2 : isN n k = false := by simpa using hin
    rw [hin2] at HI ⊢
    rw [Bool.false_and]
    go_enter Try.func42, Try.ntmps42
    go_wp2_with (go_at_call 52; refine HI.out.mono ?_; rintro e w' ⟨rfl, rfl⟩)
    go_ret
    exact ⟨rfl, Below.refl _ _⟩
end
end Go.Proofs.Ytloidoekmicloaa
