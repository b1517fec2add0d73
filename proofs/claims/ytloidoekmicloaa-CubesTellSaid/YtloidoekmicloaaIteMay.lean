/-
  Is a call of these diagrams done?
-/
import Derived.Test.YtloidoekmicloaaIteWalk
import Derived.Deep.LoopGhost
set_option linter.unusedVariables false
set_option linter.unusedSimpArgs false
set_option linter.unnecessarySimpa false
namespace Go.Proofs.Ytloidoekmicloaa
open Go.ChangeShapes Go.WideShapes Go.ChangeAt Go.RowKit Go.Deep NodePlain
/-- A slice of numbers in memory. -/
def NumRow (W : World) (so : Option Addr) (l : List Int) : Prop := 0 < l.length → ∃ b, so = some ⟨b, 0, none⟩ ∧ b < W.heap.size ∧ ∀ (i : Nat) (x : Int), l[i]? = some x → W.cell? ⟨b, i, none⟩ = some (.int .i64 x)
theorem NumRow.keeps {W W' : World} {so : Option Addr} {l : List Int} (h : NumRow W so l) {S : Nat → Prop} (hk : Keeps S W W') (hs : ∀ b, so = some ⟨b, 0, none⟩ → ¬ S b) : NumRow W' so l := fun h0 => by
  obtain ⟨b, rfl, hlt, hc⟩ := h h0
  exact ⟨b, rfl, Nat.lt_of_lt_of_le hlt hk.size, fun i x hx => (hk.cell (p := ⟨b, i, none⟩) hlt (hs b rfl)).trans (hc i x hx)⟩
section
variable {W W' : World} {db : Nat} {V B : Int} {st : St} {calls : Int} {Fp : Nat → Prop}
theorem Bd.tick (h : Bd W db V B st calls Fp) (c : Int) : Bd (W.setCell ⟨db, 2, none⟩ (.int .i64 c)) db V B st c Fp ∧ Mv W (W.setCell ⟨db, 2, none⟩ (.int .i64 c)) Fp Fp := by
  obtain ⟨tb, tp, M, vn, cb, cp, P, h, rfl⟩ := h
  have hk := Keeps.setCell (S := fun x => x = db) (Keeps.refl _ W) (p := ⟨db, 2, none⟩) (fun _ => rfl) (.int .i64 c)
  refine ⟨⟨tb, tp, M, vn, cb, cp, P, ⟨?_, h.tab.keeps hk (fun x hx => (h.s1 x hx).1), h.cache.keeps hk h.s2 h.s3, h.s1, h.s2, h.s3⟩, rfl⟩, hk.mono (fun x _ e => .inl e), fun _ hx => .inl hx⟩
  rw [heap_set h.obj]
  rfl
set_option maxRecDepth 100000
set_option maxHeartbeats 1600000
theorem may_spec (h : Bd W db V B st calls Fp) (hn : st.n ≤ 100000000) {l : List Int} (hl : ∀ x, x ∈ l → isN st.n x = true) {so : Option Addr} {n cap : Nat} (hln : l.length = n) (hcap : n ≤ cap) (hn10 : n ≤ 10) (hrow : NumRow W so l) (k : Int) (hk0 : 0 ≤ k) (hk : k ≤ 10) (hc0 : 0 ≤ calls) (hc : calls ≤ 100000000) :
    Calls Try.prog 49 #[.pointer (some ⟨db, 0, none⟩), .int .i64 k, .slice so n cap] W fun e W' => e = .returned (.bool !st.s) ∧ Hid (Bd W' db V B st (calls + k) Fp ∧ Mv W W' Fp Fp) := by
  have HIS : Hid (∀ x, x ∈ l → Calls Try.prog 36 #[.pointer (some ⟨db, 0, none⟩), .int .i64 x] W fun e W' => e = .returned (.bool true) ∧ W = W') := fun x hx => by
    have hi := hl x hx
    have := (i64_isN hn hi).2
    refine (bis_spec h (by omega) x this).mono ?_
    rintro e W' ⟨rfl, rfl⟩
    exact ⟨by rw [hi], rfl⟩
  obtain ⟨hT, hM⟩ := h.tick (calls + k)
  have HSP := Lib.hid (bspent_spec hT)
  have HEND : Hid (Bd (W.setCell ⟨db, 2, none⟩ (.int .i64 (calls + k))) db V B st (calls + k) Fp ∧ Mv W (W.setCell ⟨db, 2, none⟩ (.int .i64 (calls + k))) Fp Fp) := ⟨hT, hM⟩
  obtain ⟨tb, tp, M, vn, cb, cp, P, hm, rfl⟩ := h
  obtain ⟨_, _, c2⟩ := hm.cells
  have f2 := free_of_heap hm.obj 2
  have HR := Lib.hid hrow
  have hw : IntKind.i64.wrap (calls + k) = calls + k := IntWalk.i64_in _ (by omega)
  clear hm hrow hT hM hl
  go_enter Try.func49, Try.ntmps49
  go_wp2_with go_in
  go_loopg [13] n (fun g t wy => ∃ (j : Nat), j ≤ n ∧ g = n - j ∧ t = .int .i64 j ∧ wy = W)
  case atStart => exact ⟨0, Nat.zero_le _, rfl, rfl, rfl⟩
  case round =>
    obtain ⟨j, hj, rfl, rfl, rfl⟩ := hrel
    by_cases hlt : j < n
    · have hjI : (j : Int) < (n : Int) := by omega
      obtain ⟨x, hx⟩ : ∃ x, l[j]? = some x := ⟨_, List.getElem?_eq_getElem (by omega)⟩
      obtain ⟨bb, rfl, hbb, hcc⟩ := HR.out (by omega)
      have c := hcc j x hx
      have HI := Lib.hid (HIS.out x (List.mem_of_getElem? hx))
      clear hcc hx
      go_wp2_with (go_at_call 36; refine HI.out.mono ?_; rintro e w' ⟨rfl, rfl⟩)
      go_roundg (n - (j + 1))
      case measure => omega
      case rel => exact ⟨j + 1, by omega, rfl, by go_num, rfl⟩
    · have hjE : j = n := by omega
      have hjI : ¬ (j : Int) < (n : Int) := by omega
      go_wp2_with (go_at_call 38; refine HSP.out.mono ?_; rintro e w' ⟨rfl, rfl⟩)
      go_ret
      exact ⟨rfl, HEND.out⟩
end
end Go.Proofs.Ytloidoekmicloaa
