/-
  Whether two lists of numbers are the same.
-/
import Derived.Test.YtckjgefpelnkoaaDoorSetList
set_option linter.unusedVariables false
set_option linter.unusedSimpArgs false
set_option linter.unnecessarySimpa false
namespace Go.Proofs.YtckjgefpelnkoaaDoor
open Go.ChangeShapes Go.WideShapes Go.ChangeAt Go.RowKit Go.Deep SetPlain

/-- A slice that reads as a list of numbers. -/
def ReadsL (w : World) (v : Value) (l : List Nat) : Prop :=
  ∃ ao cap, v = .slice ao l.length cap ∧ l.length ≤ cap ∧ cap ≤ maxLen ∧ (0 < l.length → ∃ g, ao = some ⟨g, 0, none⟩ ∧ g < w.heap.size ∧ ∀ (j x : Nat), l[j]? = some x → w.cell? ⟨g, j, none⟩ = some (.int .i64 (x : Int)))
theorem ReadsL.of_own {w : World} {base : Nat} {v : Value} {l : List Nat} (h : w.ownsRow base 3 1 v l.length (l.map intV)) : ReadsL w v l := by
  obtain ⟨ao, cap, hv, hle, hm, hnone, hold⟩ := own_form h
  refine ⟨ao, cap, hv, hle, hm, fun h0 => ?_⟩
  cases ao with
  | none => have := hnone rfl; omega
  | some a =>
    obtain ⟨h4, h5, h6, _, h7⟩ := hold a rfl
    obtain ⟨bb, off, sp⟩ := a
    simp only at h4 h5 h6 h7
    subst h4; subst h5
    refine ⟨bb, rfl, h6, fun j x hj => ?_⟩
    refine h7 j (intV x) ?_
    rw [List.getElem?_map, hj]; rfl
theorem ReadsL.keeps {w w' : World} {v : Value} {l : List Nat} (h : ReadsL w v l) (hk : Keeps (fun _ => False) w w') : ReadsL w' v l := by
  obtain ⟨ao, cap, hv, hle, hm, hr⟩ := h
  refine ⟨ao, cap, hv, hle, hm, fun h0 => ?_⟩
  obtain ⟨g, h1, h2, h3⟩ := hr h0
  exact ⟨g, h1, Nat.lt_of_lt_of_le h2 hk.size, fun j x hj => (hk.cell (p := ⟨g, j, none⟩) h2 (fun x => x)).trans (h3 j x hj)⟩

def SameB (a b : List Nat) : Nat → Bool
  | 0 => true
  | k + 1 => SameB a b k && decide (a[k]? = b[k]?)
theorem SameB_iff (a b : List Nat) : ∀ k, SameB a b k = true ↔ ∀ j, j < k → a[j]? = b[j]?
  | 0 => ⟨fun _ j h => absurd h (Nat.not_lt_zero _), fun _ => rfl⟩
  | k + 1 => by
    unfold SameB
    rw [Bool.and_eq_true, SameB_iff a b k, decide_eq_true_eq]
    constructor
    · rintro ⟨h1, h2⟩ j hj
      rcases Nat.lt_or_ge j k with h | h
      · exact h1 j h
      · obtain rfl : j = k := by omega
        exact h2
    · intro h; exact ⟨fun j hj => h j (by omega), h k (by omega)⟩
theorem same_eq (a b : List Nat) (hl : a.length = b.length) : SameB a b a.length = decide (a = b) := by
  rw [Bool.eq_iff_iff, SameB_iff, decide_eq_true_eq]
  constructor
  · intro h
    apply List.ext_getElem?
    intro j
    rcases Nat.lt_or_ge j a.length with h1 | h1
    · exact h j h1
    · rw [List.getElem?_eq_none h1, List.getElem?_eq_none (by omega)]
  · rintro rfl j _; rfl

set_option maxRecDepth 10000 in
set_option maxHeartbeats 800000 in
theorem same_spec {w : World} {u v : Value} {a b : List Nat} (hu : ReadsL w u a) (hv : ReadsL w v b) (ha : a.length ≤ 1000000) (hb : b.length ≤ 1000000) :
    Calls Tryd.prog 11 #[u, v] w fun e w' => e = .returned (.bool (decide (a = b))) ∧ ∃ nq, w' = w.drewN nq := by
  obtain ⟨au, cu, rfl, _, _, hru⟩ := hu
  obtain ⟨av, cv, rfl, _, _, hrv⟩ := hv
  by_cases hl : a.length = b.length
  · obtain ⟨res, hres⟩ : ∃ res, decide (a = b) = res := ⟨_, rfl⟩
    rw [hres]
    rw [← same_eq a b hl] at hres
    have Hres := Lib.hid hres; have HU := Lib.hid hru; have HV := Lib.hid hrv; have HL := Lib.hid hl
    have hlI : ((a.length : Int) == (b.length : Int)) = true := by simp; omega
    generalize hn : a.length = n at ha hlI Hres HU HL
    generalize hm : b.length = m at hb hlI HV HL
    have hnm : n = m := HL.out
    subst hnm
    have HN := Lib.hid hn; have HM := Lib.hid hm
    clear hn hm hlI hl hres hru hrv HL
    go_enter Tryd.func11, Tryd.ntmps11
    go_wp2_with fail
    go_loopg [13] n (fun g s wr => ∃ k nq : Nat, k ≤ n ∧ g = n - k ∧ s = .int .i64 k ∧ Hid (SameB a b k = true) ∧ wr = w.drewN nq)
    case atStart => exact ⟨0, 0, Nat.zero_le _, rfl, rfl, rfl, rfl⟩
    case round =>
      obtain ⟨k, nq, hk, rfl, rfl, hs, rfl⟩ := hrel
      by_cases hlt : k < n
      · obtain ⟨gu, rfl, hgu, hcu⟩ := HU.out (by omega)
        obtain ⟨gv, rfl, hgv, hcv⟩ := HV.out (by omega)
        have hau : a[k]? = some (a[k]'(by rw [HN.out]; exact hlt)) := List.getElem?_eq_getElem _
        have hbv : b[k]? = some (b[k]'(by rw [HM.out]; exact hlt)) := List.getElem?_eq_getElem _
        generalize a[k]'(by rw [HN.out]; exact hlt) = x at hau
        generalize b[k]'(by rw [HM.out]; exact hlt) = y at hbv
        have cu1 := hcu k x hau
        have cv1 := hcv k y hbv
        have hkI : (k : Int) < (n : Int) := by omega
        by_cases hxy : x = y
        · have hs2 : Hid (SameB a b (k + 1) = true) := by
            show (SameB a b k && decide (a[k]? = b[k]?)) = true
            rw [hs.out, hau, hbv, hxy]; simp
          subst hxy
          clear hcu hcv hau hbv
          go_wp2_with fail
          go_quiet (fail)
          go_wp2_with fail
          go_roundg (n - (k + 1))
          case measure => omega
          case rel => exact ⟨k + 1, _, by omega, rfl, by go_num, hs2.out, rfl⟩
        · have hr : res = false := by
            rw [← Hres.out]
            cases hh : SameB a b n with
            | false => rfl
            | true => have := (SameB_iff a b n).1 hh k hlt; rw [hau, hbv] at this; exact absurd (Option.some.inj this) hxy
          have h1 : ((x : Int) == (y : Int)) = false := by simp; omega
          have h2 : ((x : Int) != (y : Int)) = true := by simp; omega
          clear hcu hcv hau hbv hxy Hres
          subst hr
          go_wp2_with fail
          go_quiet (fail)
          go_wp2
          go_ret
          exact ⟨rfl, _, World.drewN_drewN _ _ _⟩
      · obtain rfl : k = n := by omega
        have hr : res = true := by rw [← Hres.out]; exact hs.out
        clear Hres
        subst hr
        go_wp2
        go_ret
        exact ⟨rfl, _, rfl⟩
  · have hne : a ≠ b := fun e => hl (by rw [e])
    rw [decide_eq_false hne]
    have h1 : ((a.length : Int) == (b.length : Int)) = false := by simp; omega
    have h2 : ((a.length : Int) != (b.length : Int)) = true := by simp; omega
    generalize a.length = n at *
    generalize b.length = m at *
    clear hru hrv hl hne
    go_enter Tryd.func11, Tryd.ntmps11
    go_wp2
    go_ret
    exact ⟨rfl, 0, rfl⟩
end Go.Proofs.YtckjgefpelnkoaaDoor
