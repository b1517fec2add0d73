/-
  Two rows of the same numbers: the program's.
-/
import Derived.Test.YtfakjhcpaiaekaaSatBits
set_option linter.unusedVariables false
set_option linter.unusedSimpArgs false
set_option linter.unnecessarySimpa false
namespace Go.Proofs.Ytfakjhcpaiaekaa
open Go.ChangeShapes Go.WideShapes Go.ChangeAt Go.RowKit Go.Deep NodePlain
/-- A row of numbers, read. -/
def ReadsU (w : World) (v : Value) (l : List Nat) : Prop :=
  ∃ ao cap, v = .slice ao l.length cap ∧ l.length ≤ cap ∧ (0 < l.length → ∃ g off, ao = some ⟨g, off, none⟩ ∧ g < w.heap.size ∧ ∀ (j x : Nat), l[j]? = some x → w.cell? ⟨g, off + j, none⟩ = some (.int .u64 (x : Int)))
theorem ReadsU.keeps {w w' : World} {v : Value} {l : List Nat} (h : ReadsU w v l) (hk : Keeps (fun _ => False) w w') : ReadsU w' v l := by
  obtain ⟨ao, cap, hv, hle, hr⟩ := h
  refine ⟨ao, cap, hv, hle, fun h0 => ?_⟩
  obtain ⟨g, off, h1, h2, h3⟩ := hr h0
  exact ⟨g, off, h1, Nat.lt_of_lt_of_le h2 hk.size, fun j x hj => (hk.cell (p := ⟨g, off + j, none⟩) h2 (fun x => x)).trans (h3 j x hj)⟩
theorem OwnU.reads {w W : World} {v : Value} {l : List Nat} (h : OwnU w W v l) : ReadsU W v l := by
  obtain ⟨ao, cap, rfl, hle, _, hno, hc⟩ := own_form h
  refine ⟨ao, cap, rfl, hle, fun h0 => ?_⟩
  cases ao with
  | none => have := (hno rfl).1; omega
  | some b =>
    obtain ⟨q1, q2, q3, q4, q5⟩ := hc b rfl
    obtain ⟨b, o, sp⟩ := b
    simp only at q1 q2 q3 q4 q5
    subst q1 q2
    exact ⟨b, 0, rfl, q3, fun j x hj => by rw [Nat.zero_add]; exact q5 j _ (by unfold uCells; rw [List.getElem?_map, hj]; rfl)⟩
/-- The first so many. -/
theorem ReadsU.take {w : World} {ao : Option Addr} {cap n m : Nat} {l : List Nat} (h : ReadsU w (.slice ao n cap) l) (hm : m ≤ n) : ReadsU w (.slice ao m cap) (l.take m) := by
  obtain ⟨ao', cap', hv, hle, hr⟩ := h
  simp only [Value.slice.injEq] at hv
  obtain ⟨rfl, rfl, rfl⟩ := hv
  have hl : (l.take m).length = m := by rw [List.length_take]; omega
  refine ⟨ao, cap, by rw [hl], by omega, fun h0 => ?_⟩
  obtain ⟨g, off, h1, h2, h3⟩ := hr (by omega)
  refine ⟨g, off, h1, h2, fun j x hj => h3 j x ?_⟩
  rcases Nat.lt_or_ge j m with q | q
  · rw [List.getElem?_take_of_lt q] at hj; exact hj
  · rw [List.getElem?_eq_none (by omega)] at hj; cases hj
set_option maxRecDepth 100000
set_option maxHeartbeats 3200000
theorem ssame_spec {w : World} {u v : Value} {a b : List Nat} (hu : ReadsU w u a) (hv : ReadsU w v b) (ha : a.length ≤ 1000000) (hab : a = b) :
    Calls Try.prog 12 #[u, v] w fun e w' => e = .returned (.bool true) ∧ ∃ nq, w' = w.drewN nq := by
  subst hab
  obtain ⟨au, cu, rfl, hcu0, hru⟩ := hu
  obtain ⟨av, cv, rfl, hcv0, hrv⟩ := hv
  obtain ⟨n, hn⟩ : ∃ n, a.length = n := ⟨_, rfl⟩
  rw [hn] at hcu0 hcv0 hru hrv ha ⊢
  have HU := Lib.hid hru; have HV := Lib.hid hrv; have HN := Lib.hid hn
  clear hru hrv hn
  go_enter Try.func12, Try.ntmps12
  go_wp2_with fail
  go_loopg [13] n (fun g s wr => ∃ k nq : Nat, k ≤ n ∧ g = n - k ∧ s = .int .i64 k ∧ wr = w.drewN nq)
  case atStart => exact ⟨0, 0, Nat.zero_le _, rfl, rfl, rfl⟩
  case round =>
    obtain ⟨k, nq, hk, rfl, rfl, rfl⟩ := hrel
    by_cases hlt : k < n
    · obtain ⟨gu, ou, rfl, hgu, hcu⟩ := HU.out (by omega)
      obtain ⟨gv, ov, rfl, hgv, hcv⟩ := HV.out (by omega)
      obtain ⟨x, hx⟩ : ∃ x, a[k]? = some x := ⟨_, List.getElem?_eq_getElem (by rw [HN.out]; exact hlt)⟩
      have cu1 := hcu k x hx
      have cv1 := hcv k x hx
      have hkI : (k : Int) < (n : Int) := by omega
      have hku : k < cu := by omega
      have hkv : k < cv := by omega
      clear hcu hcv hx
      go_wp2_with fail
      go_quiet (fail)
      go_wp2_with fail
      go_roundg (n - (k + 1))
      case measure => omega
      case rel => exact ⟨k + 1, _, by omega, rfl, by go_num, rfl⟩
    · obtain rfl : k = n := by omega
      have hkI : ¬ (k : Int) < (k : Int) := by omega
      go_wp2_with fail
      go_ret
      exact ⟨rfl, _, rfl⟩
end Go.Proofs.Ytfakjhcpaiaekaa
/-
  Whether a diagram is always true; the greatest bits where there are none: the program's.
-/
set_option linter.unusedVariables false
set_option linter.unusedSimpArgs false
set_option linter.unnecessarySimpa false
namespace Go.Proofs.Ytfakjhcpaiaekaa
open Go.ChangeShapes Go.WideShapes Go.ChangeAt Go.RowKit Go.Deep NodePlain
set_option maxRecDepth 100000
set_option maxHeartbeats 1600000
theorem always_spec (W : World) (p : Value) (f : Int) : Calls Try.prog 15 #[p, .int .i64 f] W fun e W' => e = .returned (.bool (decide (f = 1))) ∧ W = W' := by
  go_enter Try.func15, Try.ntmps15
  by_cases h : f = 1
  · subst h
    go_wp2_with fail
    go_ret
    exact ⟨rfl, rfl⟩
  · have hd : decide (f = 1) = false := decide_eq_false h
    have hb : (f == 1) = false := by simpa using h
    go_wp2_with fail
    go_ret
    refine ⟨?_, rfl⟩
    rw [hd]
    rfl
theorem greatest_no {W : World} {d : Nat} {V B : Int} {st : St} {calls : Int} {Fp : Nat → Prop} (h : Bd W d V B st calls Fp) (hn : st.n ≤ 1000000000) (f : Int) (hf : f ≤ 9223372036854775807) (h0 : (decide (f = 0) || !isN st.n f) = true) :
    Calls Try.prog 17 #[.pointer (some ⟨d, 0, none⟩), .int .i64 f] W fun e W' => e = .returned (.tuple #[.int .u64 0, .bool false]) ∧ W = W' := by
  have HN0 := Lib.hid (never_spec h hn f hf)
  rw [h0] at HN0
  clear h
  go_enter Try.func17, Try.ntmps17
  go_wp2_with fail
  refine HN0.out.mono ?_
  rintro e w' ⟨rfl, rfl⟩
  go_wp2_with fail
  go_ret2
  exact ⟨rfl, rfl⟩
end Go.Proofs.Ytfakjhcpaiaekaa
