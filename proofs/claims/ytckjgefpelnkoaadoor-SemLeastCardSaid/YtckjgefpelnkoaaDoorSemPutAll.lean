/-
  The maker's put, of any rule that may be.
-/
import Derived.Test.YtckjgefpelnkoaaDoorSemPut
set_option linter.unusedVariables false
set_option linter.unusedSimpArgs false
set_option linter.unnecessarySimpa false
namespace Go.Proofs.YtckjgefpelnkoaaDoor
open Go.ChangeShapes Go.WideShapes Go.ChangeAt Go.RowKit Go.Deep SetPlain
theorem addL_put {N : Nat} {L : Nat → List Rl} {r : Rl} {g : Nat} (h : ∀ i, keepB N r i = decide (i = g)) : addL L g r = putRow N r L := by
  funext i
  unfold addL putRow
  rw [h i]
  simp
theorem addL_put2 {N : Nat} {L : Nat → List Rl} {r : Rl} {g g2 : Nat} (hne : g ≠ g2) (h : ∀ i, keepB N r i = (decide (i = g) || decide (i = g2))) : addL (addL L g r) g2 r = putRow N r L := by
  funext i
  unfold addL putRow
  rw [h i]
  by_cases e : i = g
  · subst e; rw [if_neg hne]; simp
  · by_cases e2 : i = g2
    · subst e2; simp [e]
    · simp [e, e2]
theorem putRow_none {N : Nat} {L : Nat → List Rl} {r : Rl} (h : ∀ i, keepB N r i = false) : putRow N r L = L := by
  funext i
  unfold putRow
  rw [h i]; simp
section
variable {W : World} {M : Mk} {vr : Nat → Value} {L : Nat → List Rl} {s : St} {vq : Value}
set_option maxRecDepth 100000 in
set_option maxHeartbeats 1600000 in
theorem sput_member (h : SemAt W M vr L s vq) (hs : s.steps ≤ 10000000000000000) (a b via : Int) (hn wn : Nat) (hh : hn ≤ 1000000000) (hw : wn ≤ 1000000000) (hf : Few (s.tick.add M.N M.P hn wn)) :
    Calls Tryd.prog 22 #[.pointer (some ⟨M.mb, 0, none⟩), .agg #[.int .i64 1, .int .i64 hn, .int .i64 wn, .int .i64 a, .int .i64 b, .int .i64 via]] W (PutPost M vr L vq (s.tick.add M.N M.P hn wn) W) := by
  have hbx := PutAt.box h ⟨1, hn, wn, a, b, via⟩
  obtain ⟨n0, n1, n2, n3⟩ := hbx.at_.mcells
  obtain ⟨o0, o1, o2, o3⟩ := hbx.at_.ocells
  have fo := hbx.at_.free.2 3
  obtain ⟨r0, r1, r2, r3, r4, r5⟩ := hbx.rule
  have htk := hbx.tick
  rw [show ((s.steps + 1 : Nat) : Int) = (s.steps : Int) + 1 from by omega] at htk
  have hwt : IntKind.i64.wrap ((s.steps : Int) + 1) = (s.steps : Int) + 1 := IntWalk.i64_in _ (by omega)
  unfold ruleObj at *
  simp only [] at n0 n1 n2 n3 o0 o1 o2 o3 fo r0 r1 r2 r3 r4 r5 htk
  clear hbx
  go_enter Tryd.func22, Tryd.ntmps22
  go_upto_region 2 with fail
  generalize (W.alloc (.cells #[.int .i64 1, .int .i64 hn, .int .i64 wn, .int .i64 a, .int .i64 b, .int .i64 via] 25)).setCell ⟨M.mo, 3, none⟩ (.int .i64 ((s.steps : Int) + 1)) = wq at htk ⊢
  clear n0 n1 n2 n3 o0 o1 o2 o3 fo r0 r1 r2 r3 r4 r5 h
  obtain ⟨p1, p2, p3, p4, p5, p6, p7, p8⟩ := htk.rd.cells
  simp only [] at p3 p4 p5 p6 p7 p8
  have HA := Lib.hid (sadd_spec htk.at_ hn wn hh hw hf)
  have HS := Lib.hid htk.step
  clear htk
  go_wp2_with fail
  refine HA.out.mono ?_
  rintro e W3 ⟨rfl, vq3, hat, hst⟩
  have HP : Hid (PutPost M vr L vq (s.tick.add M.N M.P hn wn) W (.returned (.tuple #[])) W3) := ⟨rfl, vr, vq3, hat, HS.out.trans hst⟩
  clear hat hst HA HS p1 p2 p3 p4 p5 p6 p7 p8
  go_wp2_with fail
  go_end0
  exact HP.out
theorem sput_spec (h : SemAt W M vr L s vq) (hL : ∀ i, (L i).length ≤ 1000000) (r : Rl) (hR : rightB M.P M.K r = true) (hf : Few (s.put M.N M.P r)) :
    Calls Tryd.prog 22 #[.pointer (some ⟨M.mb, 0, none⟩), .agg r.cells.toArray] W (PutPost M vr (putRow M.N r L) vq (s.put M.N M.P r) W) := by
  have hP64 := h.hP
  have hK64 := h.hK
  have hNle : M.N ≤ 64 * 64 := Nat.mul_le_mul hP64 hK64
  obtain ⟨⟨hh0, hh1⟩, hcase⟩ := right_iff hR
  have hNe : M.P * M.K = M.N := rfl
  rw [hNe] at hh1 hcase
  have hsteps : s.steps ≤ 10000000000000000 := by
    have h1 : s.steps ≤ (s.put M.N M.P r).steps := by
      unfold St.put
      split
      · exact ((Ext.tick s).trans (St.add_ext _ _ _)).steps
      · exact (Ext.tick s).steps
    have := hf.steps
    omega
  obtain ⟨kind, head, who, a, b, via⟩ := r
  show Calls Tryd.prog 22 #[.pointer (some ⟨M.mb, 0, none⟩), .agg #[.int .i64 kind, .int .i64 head, .int .i64 who, .int .i64 a, .int .i64 b, .int .i64 via]] W _
  simp only [] at hh0 hh1 hcase
  rcases hcase with ⟨k1, hw0, hw1⟩ | ⟨k2, ha0, ha1⟩ | ⟨k3, ha0, ha1, hv0, hv1⟩ | ⟨k4, ha0, ha1, hb0, hb1⟩
  · subst k1
    obtain ⟨hn, rfl⟩ : ∃ n : Nat, head = n := ⟨head.toNat, by omega⟩
    obtain ⟨wn, rfl⟩ : ∃ n : Nat, who = n := ⟨who.toNat, by omega⟩
    have e1 : s.put M.N M.P ⟨1, hn, wn, a, b, via⟩ = s.tick.add M.N M.P hn wn := by unfold St.put; rw [if_pos rfl]; rfl
    have e2 : putRow M.N ⟨1, hn, wn, a, b, via⟩ L = L := putRow_none fun i => by unfold keepB; split <;> simp
    rw [e2, e1]
    rw [e1] at hf
    exact sput_member h hsteps a b via hn wn (by omega) (by omega) hf
  · subst k2
    obtain ⟨an, rfl⟩ : ∃ n : Nat, a = n := ⟨a.toNat, by omega⟩
    have e1 : s.put M.N M.P ⟨2, head, who, an, b, via⟩ = s.tick := by unfold St.put; rw [if_neg (by simp only []; decide)]
    have e2 : putRow M.N ⟨2, head, who, an, b, via⟩ L = addL L an ⟨2, head, who, an, b, via⟩ := (addL_put fun i => by
      unfold keepB
      split
      · simp; omega
      · simp; omega).symm
    rw [e2, e1]
    exact sput_incl h hsteps hL head who b via an (by omega)
  · subst k3
    obtain ⟨an, rfl⟩ : ∃ n : Nat, a = n := ⟨a.toNat, by omega⟩
    obtain ⟨vn, rfl⟩ : ∃ n : Nat, via = n := ⟨via.toNat, by omega⟩
    have e1 : s.put M.N M.P ⟨3, head, who, an, b, vn⟩ = s.tick := by unfold St.put; rw [if_neg (by simp only []; decide)]
    have e2 : putRow M.N ⟨3, head, who, an, b, vn⟩ L = addL (addL L (M.N + vn) ⟨3, head, who, an, b, vn⟩) an ⟨3, head, who, an, b, vn⟩ := (addL_put2 (by omega) fun i => by
      unfold keepB
      split
      · have h1 : ¬ i = M.N + vn := by omega
        simp [h1]; omega
      · have h1 : ¬ i = an := by omega
        simp [h1]; omega).symm
    rw [e2, e1]
    exact sput_link h hsteps hL head who b an vn (by omega) (by omega)
  · subst k4
    obtain ⟨an, rfl⟩ : ∃ n : Nat, a = n := ⟨a.toNat, by omega⟩
    obtain ⟨bn, rfl⟩ : ∃ n : Nat, b = n := ⟨b.toNat, by omega⟩
    have e1 : s.put M.N M.P ⟨4, head, who, an, bn, via⟩ = s.tick := by unfold St.put; rw [if_neg (by simp only []; decide)]
    rw [e1]
    by_cases hne : bn = an
    · subst hne
      have e2 : putRow M.N ⟨4, head, who, bn, bn, via⟩ L = addL L bn ⟨4, head, who, bn, bn, via⟩ := (addL_put fun i => by
        unfold keepB
        split
        · simp; omega
        · simp; omega).symm
      rw [e2]
      exact sput_same h hsteps hL head who via bn (by omega)
    · have e2 : putRow M.N ⟨4, head, who, an, bn, via⟩ L = addL (addL L bn ⟨4, head, who, an, bn, via⟩) an ⟨4, head, who, an, bn, via⟩ := (addL_put2 hne fun i => by
        unfold keepB
        split
        · have h1 : ((an : Int) = (i : Int)) ↔ i = an := by omega
          have h2 : ((bn : Int) = (i : Int)) ↔ i = bn := by omega
          simp [h1, h2, Bool.or_comm]
        · have h1 : ¬ i = an := by omega
          have h2 : ¬ i = bn := by omega
          simp [h1, h2]).symm
      rw [e2]
      exact sput_both h hsteps hL head who via an bn (by omega) (by omega) hne
end
end Go.Proofs.YtckjgefpelnkoaaDoor
