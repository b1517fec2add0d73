/-
 Which texts are names of principals, and of roles: the program's and the document's.
-/
import Derived.Test.YtckikkkdabpjkaaGreatMD
import Derived.Test.YtckikkkdabpjkaaGreatMA
set_option linter.unusedVariables false
set_option linter.unusedSimpArgs false
set_option linter.unnecessarySimpa false
namespace Go.Proofs.YtckikkkdabpjkaaGreat
open Go.ChangeShapes Go.WideShapes Go.ChangeAt Go.RowKit Go.Deep
def inB (lo hi c : Int) : Bool := decide (lo ≤ c) && decide (c ≤ hi)
/-- A byte of a text. -/
def btN (s : ByteArray) (i : Nat) : Nat := (s.data.toList.getD i 0).toNat
theorem bt_at (s : ByteArray) (i : Nat) (h : i < s.size) : (s[i]'h).toNat = btN s i := by
 obtain ⟨⟨l⟩⟩ := s
 unfold btN
 have h' : i < l.length := h
 show (l[i]).toNat = (l.getD i 0).toNat
 rw [List.getD_eq_getElem?_getD, List.getElem?_eq_getElem h']
 rfl
def letB (c : Int) : Bool := inB 48 57 c || inB 65 90 c || inB 97 122 c
/-- The first so many bytes are letters or digits. -/
def allB (s : ByteArray) (i : Nat) : Bool := (List.range i).all fun j => letB (btN s j)
theorem allB_succ (s : ByteArray) (i : Nat) : allB s (i + 1) = (allB s i && letB (btN s i)) := by
 unfold allB; rw [List.range_succ, List.all_append]; simp
theorem allB_stop {s : ByteArray} {i n : Nat} (h : letB (btN s i) = false) (hi : i < n) : allB s n = false := by
 rw [Bool.eq_false_iff]
 intro ha
 unfold allB at ha
 rw [List.all_eq_true] at ha
 have := ha i (List.mem_range.2 hi)
 rw [h] at this; cases this
/-- A name: one to eight letters and digits, the first one from a byte to another one. -/
def isB (lo hi : Int) (s : ByteArray) : Bool := decide (1 ≤ s.size) && decide (s.size ≤ 8) && inB lo hi (btN s 0) && allB s s.size
set_option maxRecDepth 100000
set_option maxHeartbeats 3200000
theorem between_spec (c lo hi : Int) (w : World) : Calls Tryz.prog 237 #[.int .u8 c, .int .u8 lo, .int .u8 hi] w fun e w' => e = .returned (.bool (inB lo hi c)) ∧ w = w' := by
 go_enter Tryz.func237, Tryz.ntmps237
 by_cases h1 : lo ≤ c
 ·by_cases h2 : c ≤ hi
  ·have e : Hid (inB lo hi c = true) := by show inB lo hi c = true; unfold inB; rw [decide_eq_true h1, decide_eq_true h2]; rfl
   go_wp2_with fail
   go_ret
   exact ⟨by rw [e.out]; rfl, rfl⟩
  ·have e : Hid (inB lo hi c = false) := by show inB lo hi c = false; unfold inB; rw [decide_eq_true h1, decide_eq_false h2]; rfl
   go_wp2_with fail
   go_ret
   exact ⟨by rw [e.out]; rfl, rfl⟩
 ·have e : Hid (inB lo hi c = false) := by show inB lo hi c = false; unfold inB; rw [decide_eq_false h1]; rfl
  go_wp2_with fail
  go_ret
  exact ⟨by rw [e.out]; rfl, rfl⟩
theorem capital_spec (c : Int) (w : World) : Calls Tryz.prog 210 #[.int .u8 c] w fun e w' => e = .returned (.bool (inB 65 90 c)) ∧ w = w' := by
 have H := Lib.hid (between_spec c 65 90 w)
 go_enter Tryz.func210, Tryz.ntmps210
 go_wp2_with fail
 refine H.out.mono ?_
 rintro e w' ⟨rfl, rfl⟩
 go_wp2_with fail
 go_ret
 exact ⟨rfl, rfl⟩
theorem small_spec (c : Int) (w : World) : Calls Tryz.prog 211 #[.int .u8 c] w fun e w' => e = .returned (.bool (inB 97 122 c)) ∧ w = w' := by
 have H := Lib.hid (between_spec c 97 122 w)
 go_enter Tryz.func211, Tryz.ntmps211
 go_wp2_with fail
 refine H.out.mono ?_
 rintro e w' ⟨rfl, rfl⟩
 go_wp2_with fail
 go_ret
 exact ⟨rfl, rfl⟩
theorem digit_spec (c : Int) (w : World) : Calls Tryz.prog 236 #[.int .u8 c] w fun e w' => e = .returned (.bool (inB 48 57 c)) ∧ w = w' := by
 have H := Lib.hid (between_spec c 48 57 w)
 go_enter Tryz.func236, Tryz.ntmps236
 go_wp2_with fail
 refine H.out.mono ?_
 rintro e w' ⟨rfl, rfl⟩
 go_wp2_with fail
 go_ret
 exact ⟨rfl, rfl⟩
theorem letter_spec (c : Int) (w : World) : Calls Tryz.prog 148 #[.int .u8 c] w fun e w' => e = .returned (.bool (letB c)) ∧ w = w' := by
 go_enter Tryz.func148, Tryz.ntmps148
 by_cases h1 : 48 ≤ c <;> by_cases h2 : c ≤ 57 <;> by_cases h3 : 65 ≤ c <;> by_cases h4 : c ≤ 90 <;> by_cases h5 : 97 ≤ c <;> by_cases h6 : c ≤ 122
 all_goals first | (exfalso; omega) | skip
 all_goals
  have e : Hid (∀ b, b = letB c → letB c = b) := fun b h => h.symm
  go_wp2_with fail
  go_ret
  refine ⟨?_, rfl⟩
  unfold letB inB
  simp [*]
theorem names_is_prin (s : ByteArray) (w : World) : Calls Tryz.prog 209 #[.string s, .func (.func 210) #[] #[]] w fun e w' => e = .returned (.bool (isB 65 90 s)) ∧ w = w' := by
 have HF := Lib.hid (fun c w => capital_spec c w)
 have HSM := Lib.hid (fun c w => small_spec c w)
 have HCP := Lib.hid (fun c w => capital_spec c w)
 have HDG := Lib.hid (fun c w => digit_spec c w)
 obtain ⟨n, hn⟩ : ∃ n, s.size = n := ⟨_, rfl⟩
 have HDEF : Hid (isB 65 90 s = (decide (1 ≤ n) && decide (n ≤ 8) && inB 65 90 (btN s 0) && allB s n)) := by show _ = _; unfold isB; rw [hn]
 have HBT := Lib.hid (fun i h => bt_at s i h)
 go_enter Tryz.func209, Tryz.ntmps209
 by_cases h0 : n = 0
 ·have HE : Hid (isB 65 90 s = false) := by show _ = _; rw [show isB 65 90 s = _ from HDEF.out, h0]; rfl
  have h0' : s.size = 0 := by omega
  clear hn
  go_wp2_with fail
  go_ret
  exact ⟨by rw [HE.out]; rfl, rfl⟩
 have hn0 : ¬ (n : Int) = 0 := by omega
 have hbn : ((n : Int) == 0) = false := beq_eq_false_iff_ne.2 hn0
 by_cases h8 : 8 < n
 ·have HE : Hid (isB 65 90 s = false) := by show _ = _; rw [show isB 65 90 s = _ from HDEF.out, decide_eq_false (show ¬ n ≤ 8 by omega)]; simp
  have h8I : (8 : Int) < (n : Int) := by omega
  go_wp2_with fail
  go_ret
  exact ⟨by rw [HE.out]; rfl, rfl⟩
 have h8I : ¬ (8 : Int) < (n : Int) := by omega
 have hnp : (0 : Int) < (n : Int) := by omega
 have hnp2 : 0 < n := by omega
 obtain ⟨d, hd⟩ : ∃ d, btN s 0 = d := ⟨_, rfl⟩
 have hix : ∀ h : 0 < s.size, (s[0]'h).toNat = d := fun h => by rw [bt_at, hd]
 have HD := Lib.hid hd
 clear hd
 go_wp2_with fail
 refine (HF.out _ _).mono ?_
 rintro e w' ⟨rfl, rfl⟩
 obtain ⟨f, hf⟩ : ∃ f, inB 65 90 (d : Int) = f := ⟨_, rfl⟩
 rw [hf]
 have HF2 := Lib.hid hf
 clear hf hix
 cases f with
 | false =>
  have HE : Hid (isB 65 90 s = false) := by show _ = _; rw [show isB 65 90 s = _ from HDEF.out, HD.out, HF2.out]; simp
  go_wp2_with fail
  go_ret
  exact ⟨by rw [HE.out]; rfl, rfl⟩
 | true =>
  have HE : Hid (isB 65 90 s = allB s n) := by show _ = _; rw [show isB 65 90 s = _ from HDEF.out, HD.out, HF2.out, decide_eq_true (show 1 ≤ n by omega), decide_eq_true (show n ≤ 8 by omega)]; simp
  clear HDEF HF HF2 HD
  go_wp2_with fail
  go_loopg [24] n (fun g t wx => ∃ i : Nat, i ≤ n ∧ g = n - i ∧ t = .int .i64 i ∧ Hid (allB s i = true) ∧ wx = w)
  case atStart => exact ⟨0, Nat.zero_le _, rfl, rfl, by first | exact Lib.hid trivial | rfl, rfl⟩
  case round =>
   obtain ⟨i, hi, rfl, rfl, HI, rfl⟩ := hrel
   by_cases hlt : i < n
   ·have hiI : (i : Int) < (n : Int) := by omega
    have hi0 : (0 : Int) ≤ (i : Int) := by omega
    have hwi : IntKind.i64.wrap ((i : Int) + 1) = (i : Int) + 1 := IntWalk.i64_in _ (by omega)
    obtain ⟨d, hd⟩ : ∃ d, btN s i = d := ⟨_, rfl⟩
    have hix : ∀ h : i < s.size, (s[i]'h).toNat = d := fun h => by rw [bt_at, hd]
    have HA := allB_succ s i
    rw [hd] at HA
    have HA := Lib.hid HA
    have HST : Hid (letB (d : Int) = false → allB s n = false) := fun h => allB_stop (i := i) (by rw [hd]; exact h) hlt
    have HSM1 := Lib.hid (HSM.out (d : Int) wr)
    have HCP1 := Lib.hid (HCP.out (d : Int) wr)
    have HDG1 := Lib.hid (HDG.out (d : Int) wr)
    have HLB : Hid (letB (d : Int) = (inB 48 57 d || inB 65 90 d || inB 97 122 d)) := rfl
    clear hd
    generalize inB 48 57 (d : Int) = dg at *
    generalize inB 65 90 (d : Int) = cp at *
    generalize inB 97 122 (d : Int) = sm at *
    cases sm with
    | true =>
     have HN : Hid (allB s (i + 1) = true) := by show _ = _; rw [HA.out, HI.out, HLB.out]; simp
     go_wp2_with fail
     refine HSM1.out.mono ?_
     rintro e w' ⟨rfl, rfl⟩
     go_wp2_with fail
     go_roundg (n - (i + 1))
     case measure => omega
     case rel => exact ⟨i + 1, by omega, rfl, by go_num, HN, rfl⟩
    | false =>
     cases cp with
     | true =>
      have HN : Hid (allB s (i + 1) = true) := by show _ = _; rw [HA.out, HI.out, HLB.out]; simp
      go_wp2_with fail
      refine HSM1.out.mono ?_
      rintro e w' ⟨rfl, rfl⟩
      go_wp2_with fail
      refine HCP1.out.mono ?_
      rintro e w' ⟨rfl, rfl⟩
      go_wp2_with fail
      go_roundg (n - (i + 1))
      case measure => omega
      case rel => exact ⟨i + 1, by omega, rfl, by go_num, HN, rfl⟩
     | false =>
      cases dg with
      | true =>
       have HN : Hid (allB s (i + 1) = true) := by show _ = _; rw [HA.out, HI.out, HLB.out]; simp
       go_wp2_with fail
       refine HSM1.out.mono ?_
       rintro e w' ⟨rfl, rfl⟩
       go_wp2_with fail
       refine HCP1.out.mono ?_
       rintro e w' ⟨rfl, rfl⟩
       go_wp2_with fail
       refine HDG1.out.mono ?_
       rintro e w' ⟨rfl, rfl⟩
       go_wp2_with fail
       go_roundg (n - (i + 1))
       case measure => omega
       case rel => exact ⟨i + 1, by omega, rfl, by go_num, HN, rfl⟩
      | false =>
       have HN : Hid (allB s n = false) := HST.out (by rw [HLB.out]; rfl)
       go_wp2_with fail
       refine HSM1.out.mono ?_
       rintro e w' ⟨rfl, rfl⟩
       go_wp2_with fail
       refine HCP1.out.mono ?_
       rintro e w' ⟨rfl, rfl⟩
       go_wp2_with fail
       refine HDG1.out.mono ?_
       rintro e w' ⟨rfl, rfl⟩
       go_wp2_with fail
       go_ret
       exact ⟨by rw [HE.out, HN.out]; rfl, rfl⟩
   ·obtain rfl : i = n := by omega
    have hiI : ¬ (i : Int) < (i : Int) := by omega
    go_wp2_with fail
    go_ret
    exact ⟨by rw [HE.out, HI.out]; rfl, rfl⟩
theorem names_prin (s : ByteArray) (w : World) : Calls Tryz.prog 182 #[.string s] w fun e w' => e = .returned (.bool (isB 65 90 s)) ∧ w = w' := by
 have H := Lib.hid (names_is_prin s w)
 go_enter Tryz.func182, Tryz.ntmps182
 go_wp2_with fail
 refine H.out.mono ?_
 rintro e w' ⟨rfl, rfl⟩
 go_wp2_with fail
 go_ret
 exact ⟨rfl, rfl⟩
theorem names_is_name (s : ByteArray) (w : World) : Calls Tryz.prog 209 #[.string s, .func (.func 211) #[] #[]] w fun e w' => e = .returned (.bool (isB 97 122 s)) ∧ w = w' := by
 have HF := Lib.hid (fun c w => small_spec c w)
 have HSM := Lib.hid (fun c w => small_spec c w)
 have HCP := Lib.hid (fun c w => capital_spec c w)
 have HDG := Lib.hid (fun c w => digit_spec c w)
 obtain ⟨n, hn⟩ : ∃ n, s.size = n := ⟨_, rfl⟩
 have HDEF : Hid (isB 97 122 s = (decide (1 ≤ n) && decide (n ≤ 8) && inB 97 122 (btN s 0) && allB s n)) := by show _ = _; unfold isB; rw [hn]
 have HBT := Lib.hid (fun i h => bt_at s i h)
 go_enter Tryz.func209, Tryz.ntmps209
 by_cases h0 : n = 0
 ·have HE : Hid (isB 97 122 s = false) := by show _ = _; rw [show isB 97 122 s = _ from HDEF.out, h0]; rfl
  have h0' : s.size = 0 := by omega
  clear hn
  go_wp2_with fail
  go_ret
  exact ⟨by rw [HE.out]; rfl, rfl⟩
 have hn0 : ¬ (n : Int) = 0 := by omega
 have hbn : ((n : Int) == 0) = false := beq_eq_false_iff_ne.2 hn0
 by_cases h8 : 8 < n
 ·have HE : Hid (isB 97 122 s = false) := by show _ = _; rw [show isB 97 122 s = _ from HDEF.out, decide_eq_false (show ¬ n ≤ 8 by omega)]; simp
  have h8I : (8 : Int) < (n : Int) := by omega
  go_wp2_with fail
  go_ret
  exact ⟨by rw [HE.out]; rfl, rfl⟩
 have h8I : ¬ (8 : Int) < (n : Int) := by omega
 have hnp : (0 : Int) < (n : Int) := by omega
 have hnp2 : 0 < n := by omega
 obtain ⟨d, hd⟩ : ∃ d, btN s 0 = d := ⟨_, rfl⟩
 have hix : ∀ h : 0 < s.size, (s[0]'h).toNat = d := fun h => by rw [bt_at, hd]
 have HD := Lib.hid hd
 clear hd
 go_wp2_with fail
 refine (HF.out _ _).mono ?_
 rintro e w' ⟨rfl, rfl⟩
 obtain ⟨f, hf⟩ : ∃ f, inB 97 122 (d : Int) = f := ⟨_, rfl⟩
 rw [hf]
 have HF2 := Lib.hid hf
 clear hf hix
 cases f with
 | false =>
  have HE : Hid (isB 97 122 s = false) := by show _ = _; rw [show isB 97 122 s = _ from HDEF.out, HD.out, HF2.out]; simp
  go_wp2_with fail
  go_ret
  exact ⟨by rw [HE.out]; rfl, rfl⟩
 | true =>
  have HE : Hid (isB 97 122 s = allB s n) := by show _ = _; rw [show isB 97 122 s = _ from HDEF.out, HD.out, HF2.out, decide_eq_true (show 1 ≤ n by omega), decide_eq_true (show n ≤ 8 by omega)]; simp
  clear HDEF HF HF2 HD
  go_wp2_with fail
  go_loopg [24] n (fun g t wx => ∃ i : Nat, i ≤ n ∧ g = n - i ∧ t = .int .i64 i ∧ Hid (allB s i = true) ∧ wx = w)
  case atStart => exact ⟨0, Nat.zero_le _, rfl, rfl, by first | exact Lib.hid trivial | rfl, rfl⟩
  case round =>
   obtain ⟨i, hi, rfl, rfl, HI, rfl⟩ := hrel
   by_cases hlt : i < n
   ·have hiI : (i : Int) < (n : Int) := by omega
    have hi0 : (0 : Int) ≤ (i : Int) := by omega
    have hwi : IntKind.i64.wrap ((i : Int) + 1) = (i : Int) + 1 := IntWalk.i64_in _ (by omega)
    obtain ⟨d, hd⟩ : ∃ d, btN s i = d := ⟨_, rfl⟩
    have hix : ∀ h : i < s.size, (s[i]'h).toNat = d := fun h => by rw [bt_at, hd]
    have HA := allB_succ s i
    rw [hd] at HA
    have HA := Lib.hid HA
    have HST : Hid (letB (d : Int) = false → allB s n = false) := fun h => allB_stop (i := i) (by rw [hd]; exact h) hlt
    have HSM1 := Lib.hid (HSM.out (d : Int) wr)
    have HCP1 := Lib.hid (HCP.out (d : Int) wr)
    have HDG1 := Lib.hid (HDG.out (d : Int) wr)
    have HLB : Hid (letB (d : Int) = (inB 48 57 d || inB 65 90 d || inB 97 122 d)) := rfl
    clear hd
    generalize inB 48 57 (d : Int) = dg at *
    generalize inB 65 90 (d : Int) = cp at *
    generalize inB 97 122 (d : Int) = sm at *
    cases sm with
    | true =>
     have HN : Hid (allB s (i + 1) = true) := by show _ = _; rw [HA.out, HI.out, HLB.out]; simp
     go_wp2_with fail
     refine HSM1.out.mono ?_
     rintro e w' ⟨rfl, rfl⟩
     go_wp2_with fail
     go_roundg (n - (i + 1))
     case measure => omega
     case rel => exact ⟨i + 1, by omega, rfl, by go_num, HN, rfl⟩
    | false =>
     cases cp with
     | true =>
      have HN : Hid (allB s (i + 1) = true) := by show _ = _; rw [HA.out, HI.out, HLB.out]; simp
      go_wp2_with fail
      refine HSM1.out.mono ?_
      rintro e w' ⟨rfl, rfl⟩
      go_wp2_with fail
      refine HCP1.out.mono ?_
      rintro e w' ⟨rfl, rfl⟩
      go_wp2_with fail
      go_roundg (n - (i + 1))
      case measure => omega
      case rel => exact ⟨i + 1, by omega, rfl, by go_num, HN, rfl⟩
     | false =>
      cases dg with
      | true =>
       have HN : Hid (allB s (i + 1) = true) := by show _ = _; rw [HA.out, HI.out, HLB.out]; simp
       go_wp2_with fail
       refine HSM1.out.mono ?_
       rintro e w' ⟨rfl, rfl⟩
       go_wp2_with fail
       refine HCP1.out.mono ?_
       rintro e w' ⟨rfl, rfl⟩
       go_wp2_with fail
       refine HDG1.out.mono ?_
       rintro e w' ⟨rfl, rfl⟩
       go_wp2_with fail
       go_roundg (n - (i + 1))
       case measure => omega
       case rel => exact ⟨i + 1, by omega, rfl, by go_num, HN, rfl⟩
      | false =>
       have HN : Hid (allB s n = false) := HST.out (by rw [HLB.out]; rfl)
       go_wp2_with fail
       refine HSM1.out.mono ?_
       rintro e w' ⟨rfl, rfl⟩
       go_wp2_with fail
       refine HCP1.out.mono ?_
       rintro e w' ⟨rfl, rfl⟩
       go_wp2_with fail
       refine HDG1.out.mono ?_
       rintro e w' ⟨rfl, rfl⟩
       go_wp2_with fail
       go_ret
       exact ⟨by rw [HE.out, HN.out]; rfl, rfl⟩
   ·obtain rfl : i = n := by omega
    have hiI : ¬ (i : Int) < (i : Int) := by omega
    go_wp2_with fail
    go_ret
    exact ⟨by rw [HE.out, HI.out]; rfl, rfl⟩
theorem names_name (s : ByteArray) (w : World) : Calls Tryz.prog 183 #[.string s] w fun e w' => e = .returned (.bool (isB 97 122 s)) ∧ w = w' := by
 have H := Lib.hid (names_is_name s w)
 go_enter Tryz.func183, Tryz.ntmps183
 go_wp2_with fail
 refine H.out.mono ?_
 rintro e w' ⟨rfl, rfl⟩
 go_wp2_with fail
 go_ret
 exact ⟨rfl, rfl⟩
/-- The document's. -/
theorem ref_is_spec (s : ByteArray) (lo hi : Int) (hlo : 0 ≤ lo) (w : World) : Calls Tryz.prog 104 #[.string s, .int .u8 lo, .int .u8 hi] w fun e w' => e = .returned (.bool (isB lo hi s)) ∧ w = w' := by
 have HLT := Lib.hid (fun c w => letter_spec c w)
 obtain ⟨n, hn⟩ : ∃ n, s.size = n := ⟨_, rfl⟩
 have HDEF : Hid (isB lo hi s = (decide (1 ≤ n) && decide (n ≤ 8) && inB lo hi (btN s 0) && allB s n)) := by show _ = _; unfold isB; rw [hn]
 go_enter Tryz.func104, Tryz.ntmps104
 by_cases h0 : n = 0
 ·have HE : Hid (isB lo hi s = false) := by show _ = _; rw [show isB lo hi s = _ from HDEF.out, h0]; rfl
  have h0' : s.size = 0 := by omega
  clear hn
  go_wp2_with fail
  go_ret
  exact ⟨by rw [HE.out]; rfl, rfl⟩
 have hn0 : ¬ (n : Int) < 1 := by omega
 by_cases h8 : 8 < n
 ·have HE : Hid (isB lo hi s = false) := by show _ = _; rw [show isB lo hi s = _ from HDEF.out, decide_eq_false (show ¬ n ≤ 8 by omega)]; simp
  have h8I : (8 : Int) < (n : Int) := by omega
  go_wp2_with fail
  go_ret
  exact ⟨by rw [HE.out]; rfl, rfl⟩
 have h8I : ¬ (8 : Int) < (n : Int) := by omega
 have hnp : (0 : Int) < (n : Int) := by omega
 have hnp2 : 0 < n := by omega
 obtain ⟨d, hd⟩ : ∃ d, btN s 0 = d := ⟨_, rfl⟩
 have hix : ∀ h : 0 < s.size, (s[0]'h).toNat = d := fun h => by rw [bt_at, hd]
 have HD := Lib.hid hd
 clear hd
 by_cases hl : (d : Int) < lo
 ·have HE : Hid (isB lo hi s = false) := by show _ = _; rw [show isB lo hi s = _ from HDEF.out, HD.out]; unfold inB; rw [decide_eq_false (show ¬ lo ≤ (d : Int) by omega)]; simp
  go_wp2_with fail
  go_ret
  exact ⟨by rw [HE.out]; rfl, rfl⟩
 by_cases hh : hi < (d : Int)
 ·have HE : Hid (isB lo hi s = false) := by show _ = _; rw [show isB lo hi s = _ from HDEF.out, HD.out]; unfold inB; rw [decide_eq_false (show ¬ (d : Int) ≤ hi by omega)]; simp
  go_wp2_with fail
  go_ret
  exact ⟨by rw [HE.out]; rfl, rfl⟩
 have HE : Hid (isB lo hi s = allB s n) := by show _ = _; rw [show isB lo hi s = _ from HDEF.out, HD.out]; unfold inB; rw [decide_eq_true (show lo ≤ (d : Int) by omega), decide_eq_true (show (d : Int) ≤ hi by omega), decide_eq_true (show 1 ≤ n by omega), decide_eq_true (show n ≤ 8 by omega)]; simp
 clear HDEF HD
 go_wp2_with fail
 go_loopg [7] n (fun g t wx => ∃ i : Nat, i ≤ n ∧ g = n - i ∧ t = .int .i64 i ∧ Hid (allB s i = true) ∧ wx = w)
 case atStart => exact ⟨0, Nat.zero_le _, rfl, rfl, by first | exact Lib.hid trivial | rfl, rfl⟩
 case round =>
  clear hix
  obtain ⟨i, hi, rfl, rfl, HI, rfl⟩ := hrel
  by_cases hlt : i < n
  ·have hiI : (i : Int) < (n : Int) := by omega
   have hi0 : (0 : Int) ≤ (i : Int) := by omega
   have hwi : IntKind.i64.wrap ((i : Int) + 1) = (i : Int) + 1 := IntWalk.i64_in _ (by omega)
   obtain ⟨d, hd⟩ : ∃ d, btN s i = d := ⟨_, rfl⟩
   have hix : ∀ h : i < s.size, (s[i]'h).toNat = d := fun h => by rw [bt_at, hd]
   have HA := allB_succ s i
   rw [hd] at HA
   have HA := Lib.hid HA
   have HST : Hid (letB (d : Int) = false → allB s n = false) := fun h => allB_stop (i := i) (by rw [hd]; exact h) hlt
   have HL1 := Lib.hid (HLT.out (d : Int) wr)
   clear hd
   generalize letB (d : Int) = b at *
   cases b with
   | true =>
    have HN : Hid (allB s (i + 1) = true) := by show _ = _; rw [HA.out, HI.out]; rfl
    go_wp2_with fail
    refine HL1.out.mono ?_
    rintro e w' ⟨rfl, rfl⟩
    go_wp2_with fail
    go_roundg (n - (i + 1))
    case measure => omega
    case rel => exact ⟨i + 1, by omega, rfl, by go_num, HN, rfl⟩
   | false =>
    have HN : Hid (allB s n = false) := HST.out rfl
    go_wp2_with fail
    refine HL1.out.mono ?_
    rintro e w' ⟨rfl, rfl⟩
    go_wp2_with fail
    go_ret
    exact ⟨by rw [HE.out, HN.out]; rfl, rfl⟩
  ·obtain rfl : i = n := by omega
   have hiI : ¬ (i : Int) < (i : Int) := by omega
   go_wp2_with fail
   go_ret
   exact ⟨by rw [HE.out, HI.out]; rfl, rfl⟩
theorem ref_prin (s : ByteArray) (w : World) : Calls Tryz.prog 50 #[.string s] w fun e w' => e = .returned (.bool (isB 65 90 s)) ∧ w = w' := by
 have H := Lib.hid (ref_is_spec s 65 90 (by decide) w)
 go_enter Tryz.func50, Tryz.ntmps50
 go_wp2_with fail
 refine H.out.mono ?_
 rintro e w' ⟨rfl, rfl⟩
 go_wp2_with fail
 go_ret
 exact ⟨rfl, rfl⟩
theorem ref_name (s : ByteArray) (w : World) : Calls Tryz.prog 51 #[.string s] w fun e w' => e = .returned (.bool (isB 97 122 s)) ∧ w = w' := by
 have H := Lib.hid (ref_is_spec s 97 122 (by decide) w)
 go_enter Tryz.func51, Tryz.ntmps51
 go_wp2_with fail
 refine H.out.mono ?_
 rintro e w' ⟨rfl, rfl⟩
 go_wp2_with fail
 go_ret
 exact ⟨rfl, rfl⟩
end Go.Proofs.YtckikkkdabpjkaaGreat
/-
 Which roles, statements, queries and policies may be: as Booleans. No program in sight.
-/
set_option linter.unusedVariables false
set_option linter.unusedSimpArgs false
namespace Go.Proofs.YtckikkkdabpjkaaGreat
def prinB (t : Str) : Bool := isB 65 90 ⟨t.toArray⟩
def nameB (t : Str) : Bool := isB 97 122 ⟨t.toArray⟩
def roleB (r : Rol) : Bool := prinB r.1 && nameB r.2
/-- What a statement of a kind must be beside its head. -/
def stmRB (x : Stm) : Bool := roleB x.1 && (
 if x.2.1 = 1 then prinB x.2.2.1 && decide (x.2.2.2.1 = noRol) && decide (x.2.2.2.2.1 = noRol) && decide (x.2.2.2.2.2 = [])
 else if x.2.1 = 2 then decide (x.2.2.1 = []) && roleB x.2.2.2.1 && decide (x.2.2.2.2.1 = noRol) && decide (x.2.2.2.2.2 = [])
 else if x.2.1 = 3 then decide (x.2.2.1 = []) && roleB x.2.2.2.1 && decide (x.2.2.2.2.1 = noRol) && nameB x.2.2.2.2.2
 else if x.2.1 = 4 then decide (x.2.2.1 = []) && roleB x.2.2.2.1 && roleB x.2.2.2.2.1 && decide (x.2.2.2.2.2 = []) && !decide (rolLt x.2.2.2.2.1 x.2.2.2.1)
 else false)
/-- Is the text at a place a principal, and behind the one ahead of it? -/
def okAt (l : List Str) (i : Nat) : Bool := prinB (l.getD i []) && (decide (i = 0) || decide (l.getD (i - 1) [] < l.getD i []))
def whoB (l : List Str) : Bool := (List.range l.length).all (okAt l)
def qryRB (q : Qry) : Bool := decide (1 ≤ q.1 ∧ q.1 ≤ 6) && roleB q.2.1 && whoB q.2.2.2 && (
 if 5 ≤ q.1 then roleB q.2.2.1 && decide (q.2.2.2.length = 0)
 else decide (q.2.2.1 = noRol) && decide (q.2.2.2.length ≤ 12) && (if q.1 = 4 then decide (q.2.2.2.length = 0) else decide (q.1 = 3) || decide (0 < q.2.2.2.length)))
def fitsPB (p : Pol) : Bool := decide (p.1.length ≤ 80 ∧ p.2.1.length ≤ 40 ∧ p.2.2.1.length ≤ 40 ∧ p.2.2.2.length ≤ 16) && (decide ((tabL (prinsA p)).length ≤ 16) && decide ((tabL (namesA p)).length ≤ 12))
def polRB (p : Pol) : Bool := p.1.all stmRB && (p.2.1 ++ p.2.2.1).all roleB && p.2.2.2.all qryRB && decide (p.1 = sortO stmLt p.1) && decide (p.2.1 = sortO rolLt p.2.1) && decide (p.2.2.1 = sortO rolLt p.2.2.1) && fitsPB p
theorem roleB_no : roleB noRol = false := rfl
/-- A row is in order just if each is behind the one ahead of it. -/
theorem sorted_adj {α : Type} {lt : α → α → Prop} [DecidableRel lt] [DecidableEq α] (o : LO lt) (l : List α) : l = sortO lt l ↔ ∀ i (h : i + 1 < l.length), lt (l[i]'(by omega)) l[i + 1] := by
 constructor
 ·intro h i hi
  have hp : l.Pairwise lt := by rw [h]; exact sortO_rises o l
  exact List.pairwise_iff_getElem.1 hp i (i + 1) (by omega) hi (by omega)
 ·intro h
  refine sortO_eq o ?_ (fun x => Iff.rfl)
  rw [List.pairwise_iff_getElem]
  intro i j hi hj hij
  have key : ∀ d (hd : i + 1 + d < l.length), lt (l[i]'hi) l[i + 1 + d] := by
   intro d
   induction d with
   | zero => intro hd; exact h i hd
   | succ d ih => intro hd; exact o.trans (ih (by omega)) (h (i + 1 + d) hd)
  have := key (j - i - 1) (by omega)
  have e : i + 1 + (j - i - 1) = j := by omega
  simp only [e] at this
  exact this
end Go.Proofs.YtckikkkdabpjkaaGreat
