/-
  The maker's all: all in a role are in another one, too.
-/
import Derived.Test.YtckjgefpelnkoaaDoorSemAdd
import Derived.Test.YtckjgefpelnkoaaDoorSetList
set_option linter.unusedVariables false
set_option linter.unusedSimpArgs false
set_option linter.unnecessarySimpa false
namespace Go.Proofs.YtckjgefpelnkoaaDoor
open Go.ChangeShapes Go.WideShapes Go.ChangeAt Go.RowKit Go.Deep SetPlain
theorem SemStep.foreign {M : Mk} {vr vr' : Nat → Value} {vq vq' : Value} {W W' : World} (h : SemStep M vr vr' vq vq' W W') {x : Nat} (hx : ¬ semFp M vr vq x) (hl : x < W.heap.size) : W'.heap[x]? = W.heap[x]? ∧ ¬ semFp M vr' vq' x ∧ x < W'.heap.size :=
  ⟨h.keeps.block x hl hx, fun y => (h.fp x y).elim hx (fun z => by omega), Nat.lt_of_lt_of_le hl h.keeps.size⟩
section
variable {W : World} {M : Mk} {vr : Nat → Value} {L : Nat → List Rl} {s : St} {vq : Value}
theorem rowP_at {R : Nat} {In : Nat → Nat → Bool} {i : Nat} (h : i < R) : rowP R In (i : Int) = In i := by unfold rowP; rw [if_pos (by omega)]; rfl
set_option maxRecDepth 100000 in
set_option maxHeartbeats 1600000 in
theorem sall_spec (h : SemAt W M vr L s vq) (hT : TabIn W) (src dst : Nat) (hs : src < M.N) (hd : dst ≤ 1000000000) (hf : Few (s.all M.N M.P src dst)) :
    Calls Tryd.prog 31 #[.pointer (some ⟨M.mb, 0, none⟩), .int .i64 src, .int .i64 dst] W (AddPostS M vr L vq (s.all M.N M.P src dst) W) := by
  obtain ⟨m0, m1, m2, m3⟩ := h.mcells
  obtain ⟨o0, o1, o2, o3⟩ := h.ocells
  have hP := h.hP
  obtain ⟨l, hl⟩ : ∃ l, l = listTo (s.In src) M.P := ⟨_, rfl⟩
  have HL := flist_spec h.fam hT src
  rw [rowP_at hs, ← hl] at HL
  have hll : l.length ≤ 64 := by rw [hl, listTo_len]; have := cnt_le (s.In src) M.P; omega
  have hmem : ∀ (j x : Nat), l[j]? = some x → x ≤ 1000000000 := fun j x hj => by
    have := (listTo_lt (s.In src) M.P x (by rw [← hl]; exact List.mem_of_getElem? hj)).1
    omega
  have Hf : Hid (∀ (j x : Nat), l[j]? = some x → St.addAll M.N M.P dst (l.take (j + 1)) s = (St.addAll M.N M.P dst (l.take j) s).add M.N M.P dst x ∧ Few ((St.addAll M.N M.P dst (l.take j) s).add M.N M.P dst x)) := fun j x hj => by
    obtain ⟨h1, h2⟩ := St.addAll_take (N := M.N) (P := M.P) (dst := dst) l s hj
    refine ⟨h1, Few.down h2 ?_⟩
    rw [hl]; exact hf
  have Hend : Hid (St.addAll M.N M.P dst (l.take l.length) s = s.all M.N M.P src dst) := by
    show _ = _
    rw [List.take_length, hl]; rfl
  have HL' := Lib.hid HL
  have H := Lib.hid h
  have Hmem := Lib.hid hmem
  have hlt := Lib.hid (SemMem.lt h)
  clear HL hl hf hT hmem h
  go_enter Tryd.func31, Tryd.ntmps31
  go_wp2_with fail
  refine HL'.out.mono ?_
  rintro e W2 ⟨v, rfl, hown, hb⟩
  obtain ⟨ao, cap, rfl, hle, hmx, hnone, hcells⟩ := own_form hown
  have hk2 : Keeps (fun _ => False) W W2 := Keeps.of_below hb (Nat.le_refl _)
  have HC : Hid (∀ (j x : Nat), l[j]? = some x → ∃ g, ao = some ⟨g, 0, none⟩ ∧ W2.cell? ⟨g, j, none⟩ = some (.int .i64 (x : Int)) ∧ ¬ semFp M vr vq g ∧ g < W2.heap.size) := fun j x hj => by
    cases ao with
    | none =>
      have := (hnone rfl).1
      rw [List.getElem?_eq_none (by omega)] at hj; cases hj
    | some a =>
      obtain ⟨h4, h5, h6, h7, h8⟩ := hcells a rfl
      obtain ⟨bb, off, sp⟩ := a
      simp only at h4 h5 h6 h7 h8
      subst h4; subst h5
      exact ⟨bb, rfl, h8 j (intV x) (by rw [List.getElem?_map, hj]; rfl), fun hx => by have := hlt.out bb hx; omega, h6⟩
  have H2 : Hid (SemAt W2 M vr L s vq) := SemAt.keeps H.out hk2
  have K2 := Lib.hid hk2
  clear hown hcells hnone HL' hb hk2
  go_wp2_with fail
  go_loopg [18] l.length (fun g t wr => ∃ j : Nat, j ≤ l.length ∧ g = l.length - j ∧ t = .int .i64 j ∧ ∃ vq', Hid (SemAt wr M vr L (St.addAll M.N M.P dst (l.take j) s) vq') ∧ Hid (SemStep M vr vr vq vq' W2 wr))
  case atStart => exact ⟨0, Nat.zero_le _, rfl, rfl, vq, H2.out, SemStep.refl _ _ _ _⟩
  case round =>
    obtain ⟨j, hj, rfl, rfl, vq', hat, hst⟩ := hrel
    by_cases hlt2 : j < l.length
    · obtain ⟨x, hx⟩ : ∃ x, l[j]? = some x := ⟨_, List.getElem?_eq_getElem hlt2⟩
      obtain ⟨g, rfl, hc, hng, hgl⟩ := HC.out j x hx
      have hcr : wr.cell? ⟨g, j, none⟩ = some (.int .i64 (x : Int)) := (World.cell?_of_block (hst.out.foreign hng hgl).1).trans hc
      have hxs := Hmem.out j x hx
      obtain ⟨hs1, hs2⟩ := Hf.out j x hx
      have HA := Lib.hid (sadd_spec hat.out dst x hd hxs hs2)
      have hs1' := Lib.hid hs1
      have hjI : (j : Int) < (l.length : Int) := by omega
      clear hc hs1 hs2 hat
      go_wp2_with fail
      refine HA.out.mono ?_
      rintro e W3 ⟨rfl, vq3, hat3, hst3⟩
      have HAT : Hid (SemAt W3 M vr L (St.addAll M.N M.P dst (l.take (j + 1)) s) vq3) := by rw [hs1'.out]; exact hat3
      have HST : Hid (SemStep M vr vr vq vq3 W2 W3) := hst.out.trans hst3
      clear hat3 hst3 HA hs1'
      go_wp2_with fail
      go_roundg (l.length - (j + 1))
      case measure => omega
      case rel => exact ⟨j + 1, by omega, rfl, by go_num, vq3, HAT, HST⟩
    · obtain rfl : j = l.length := by omega
      have hpost : AddPostS M vr L vq (s.all M.N M.P src dst) W (.returned (.tuple #[])) wr := ⟨rfl, vq', by rw [← Hend.out]; exact hat.out, (SemStep.quiet K2.out).trans hst.out⟩
      have HP := Lib.hid hpost
      clear hpost hat hst
      go_wp2
      go_end0
      exact HP.out
end
end Go.Proofs.YtckjgefpelnkoaaDoor
