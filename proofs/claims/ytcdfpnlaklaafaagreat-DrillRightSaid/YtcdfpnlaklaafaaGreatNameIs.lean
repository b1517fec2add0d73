/-
  Which texts are names of principals, and of roles: the program's and the document's.
-/
import Derived.Test.YtcdfpnlaklaafaaGreatNameMem
set_option linter.unusedVariables false
set_option linter.unusedSimpArgs false
set_option linter.unnecessarySimpa false
namespace Go.Proofs.YtcdfpnlaklaafaaGreat
open Go.ChangeShapes Go.WideShapes Go.ChangeAt Go.RowKit Go.Deep
def inB (lo hi c : Int) : Bool := decide (lo ≤ c) && decide (c ≤ hi)
/-- A byte of a text. -/
def btN (s : ByteArray) (i : Nat) : Nat := (s.data.toList.getD i 0).toNat
theorem bt_at (s : ByteArray) (i : Nat) (h : i < s.size) : (s[i]'h).toNat = btN s i := by
  obtain ⟨⟨l⟩⟩ := s
  unfold btN
  have h' : i < l.length := h
  show (l[i]).toNat = (l.getD i 0).toNat
  rw [List.getD_eq_getElem?_getD, List.getElem?_eq_getElem h']
  rfl
def letB (c : Int) : Bool := inB 48 57 c || inB 65 90 c || inB 97 122 c
/-- The first so many bytes are letters or digits. -/
def allB (s : ByteArray) (i : Nat) : Bool := (List.range i).all fun j => letB (btN s j)
theorem allB_succ (s : ByteArray) (i : Nat) : allB s (i + 1) = (allB s i && letB (btN s i)) := by
  unfold allB; rw [List.range_succ, List.all_append]; simp
theorem allB_stop {s : ByteArray} {i n : Nat} (h : letB (btN s i) = false) (hi : i < n) : allB s n = false := by
  rw [Bool.eq_false_iff]
  intro ha
  unfold allB at ha
  rw [List.all_eq_true] at ha
  have := ha i (List.mem_range.2 hi)
  rw [h] at this; cases this
/-- A name: one to eight letters and digits, the first one from a byte to another one. -/
def isB (lo hi : Int) (s : ByteArray) : Bool := decide (1 ≤ s.size) && decide (s.size ≤ 8) && inB lo hi (btN s 0) && allB s s.size
set_option maxRecDepth 100000
set_option maxHeartbeats 3200000
theorem letter_spec (c : Int) (w : World) : Calls Tryz.prog 89 #[.int .u8 c] w fun e w' => e = .returned (.bool (letB c)) ∧ w = w' := by
  go_enter Tryz.func89, Tryz.ntmps89
  by_cases h1 : 48 ≤ c <;> by_cases h2 : c ≤ 57 <;> by_cases h3 : 65 ≤ c <;> by_cases h4 : c ≤ 90 <;> by_cases h5 : 97 ≤ c <;> by_cases h6 : c ≤ 122
  all_goals first | (exfalso; omega) | skip
  all_goals
    have e : Hid (∀ b, b = letB c → letB c = b) := fun b h => h.symm
    go_wp2_with fail
    go_ret
    refine ⟨?_, rfl⟩
    unfold letB inB
    simp [*]
/-- The document's. -/
theorem ref_is_spec (s : ByteArray) (lo hi : Int) (hlo : 0 ≤ lo) (w : World) : Calls Tryz.prog 72 #[.string s, .int .u8 lo, .int .u8 hi] w fun e w' => e = .returned (.bool (isB lo hi s)) ∧ w = w' := by
  have HLT := Lib.hid (fun c w => letter_spec c w)
  obtain ⟨n, hn⟩ : ∃ n, s.size = n := ⟨_, rfl⟩
  have HDEF : Hid (isB lo hi s = (decide (1 ≤ n) && decide (n ≤ 8) && inB lo hi (btN s 0) && allB s n)) := by show _ = _; unfold isB; rw [hn]
  go_enter Tryz.func72, Tryz.ntmps72
  by_cases h0 : n = 0
  · have HE : Hid (isB lo hi s = false) := by show _ = _; rw [show isB lo hi s = _ from HDEF.out, h0]; rfl
    have h0' : s.size = 0 := by omega
    clear hn
    go_wp2_with fail
    go_ret
    exact ⟨by rw [HE.out]; rfl, rfl⟩
  have hn0 : ¬ (n : Int) < 1 := by omega
  by_cases h8 : 8 < n
  · have HE : Hid (isB lo hi s = false) := by show _ = _; rw [show isB lo hi s = _ from HDEF.out, decide_eq_false (show ¬ n ≤ 8 by omega)]; simp
    have h8I : (8 : Int) < (n : Int) := by omega
    go_wp2_with fail
    go_ret
    exact ⟨by rw [HE.out]; rfl, rfl⟩
  have h8I : ¬ (8 : Int) < (n : Int) := by omega
  have hnp : (0 : Int) < (n : Int) := by omega
  have hnp2 : 0 < n := by omega
  obtain ⟨d, hd⟩ : ∃ d, btN s 0 = d := ⟨_, rfl⟩
  have hix : ∀ h : 0 < s.size, (s[0]'h).toNat = d := fun h => by rw [bt_at, hd]
  have HD := Lib.hid hd
  clear hd
  by_cases hl : (d : Int) < lo
  · have HE : Hid (isB lo hi s = false) := by show _ = _; rw [show isB lo hi s = _ from HDEF.out, HD.out]; unfold inB; rw [decide_eq_false (show ¬ lo ≤ (d : Int) by omega)]; simp
    go_wp2_with fail
    go_ret
    exact ⟨by rw [HE.out]; rfl, rfl⟩
  by_cases hh : hi < (d : Int)
  · have HE : Hid (isB lo hi s = false) := by show _ = _; rw [show isB lo hi s = _ from HDEF.out, HD.out]; unfold inB; rw [decide_eq_false (show ¬ (d : Int) ≤ hi by omega)]; simp
    go_wp2_with fail
    go_ret
    exact ⟨by rw [HE.out]; rfl, rfl⟩
  have HE : Hid (isB lo hi s = allB s n) := by show _ = _; rw [show isB lo hi s = _ from HDEF.out, HD.out]; unfold inB; rw [decide_eq_true (show lo ≤ (d : Int) by omega), decide_eq_true (show (d : Int) ≤ hi by omega), decide_eq_true (show 1 ≤ n by omega), decide_eq_true (show n ≤ 8 by omega)]; simp
  clear HDEF HD
  go_wp2_with fail
  go_loopg [7] n (fun g t wx => ∃ i : Nat, i ≤ n ∧ g = n - i ∧ t = .int .i64 i ∧ Hid (allB s i = true) ∧ wx = w)
  case atStart => exact ⟨0, Nat.zero_le _, rfl, rfl, by first | exact Lib.hid trivial | rfl, rfl⟩
  case round =>
    clear hix
    obtain ⟨i, hi, rfl, rfl, HI, rfl⟩ := hrel
    by_cases hlt : i < n
    · have hiI : (i : Int) < (n : Int) := by omega
      have hi0 : (0 : Int) ≤ (i : Int) := by omega
      have hwi : IntKind.i64.wrap ((i : Int) + 1) = (i : Int) + 1 := IntWalk.i64_in _ (by omega)
      obtain ⟨d, hd⟩ : ∃ d, btN s i = d := ⟨_, rfl⟩
      have hix : ∀ h : i < s.size, (s[i]'h).toNat = d := fun h => by rw [bt_at, hd]
      have HA := allB_succ s i
      rw [hd] at HA
      have HA := Lib.hid HA
      have HST : Hid (letB (d : Int) = false → allB s n = false) := fun h => allB_stop (i := i) (by rw [hd]; exact h) hlt
      have HL1 := Lib.hid (HLT.out (d : Int) wr)
      clear hd
      generalize letB (d : Int) = b at *
      cases b with
      | true =>
        have HN : Hid (allB s (i + 1) = true) := by show _ = _; rw [HA.out, HI.out]; rfl
        go_wp2_with fail
        refine HL1.out.mono ?_
        rintro e w' ⟨rfl, rfl⟩
        go_wp2_with fail
        go_roundg (n - (i + 1))
        case measure => omega
        case rel => exact ⟨i + 1, by omega, rfl, by go_num, HN, rfl⟩
      | false =>
        have HN : Hid (allB s n = false) := HST.out rfl
        go_wp2_with fail
        refine HL1.out.mono ?_
        rintro e w' ⟨rfl, rfl⟩
        go_wp2_with fail
        go_ret
        exact ⟨by rw [HE.out, HN.out]; rfl, rfl⟩
    · obtain rfl : i = n := by omega
      have hiI : ¬ (i : Int) < (i : Int) := by omega
      go_wp2_with fail
      go_ret
      exact ⟨by rw [HE.out, HI.out]; rfl, rfl⟩
theorem ref_prin (s : ByteArray) (w : World) : Calls Tryz.prog 55 #[.string s] w fun e w' => e = .returned (.bool (isB 65 90 s)) ∧ w = w' := by
  have H := Lib.hid (ref_is_spec s 65 90 (by decide) w)
  go_enter Tryz.func55, Tryz.ntmps55
  go_wp2_with fail
  refine H.out.mono ?_
  rintro e w' ⟨rfl, rfl⟩
  go_wp2_with fail
  go_ret
  exact ⟨rfl, rfl⟩
theorem ref_name (s : ByteArray) (w : World) : Calls Tryz.prog 56 #[.string s] w fun e w' => e = .returned (.bool (isB 97 122 s)) ∧ w = w' := by
  have H := Lib.hid (ref_is_spec s 97 122 (by decide) w)
  go_enter Tryz.func56, Tryz.ntmps56
  go_wp2_with fail
  refine H.out.mono ?_
  rintro e w' ⟨rfl, rfl⟩
  go_wp2_with fail
  go_ret
  exact ⟨rfl, rfl⟩
end Go.Proofs.YtcdfpnlaklaafaaGreat
