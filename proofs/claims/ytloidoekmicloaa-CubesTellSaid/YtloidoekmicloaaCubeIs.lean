/-
  Which bits are as a cube tells; how much cubes tell.
-/
import Derived.Test.YtloidoekmicloaaMY
import Derived.Test.YtloidoekmicloaaMU
set_option linter.unusedVariables false
set_option linter.unusedSimpArgs false
set_option linter.unnecessarySimpa false
namespace Go.Proofs.Ytloidoekmicloaa
open Go.ChangeShapes Go.WideShapes Go.ChangeAt Go.RowKit Go.Deep NodePlain
theorem bit_fin : ∀ i : Fin 64, ∀ v : Fin 65, bits BinOp.and IntKind.i64 (((i.val : Nat) : Int) / (2 : Int) ^ v.val) 1 = if Nat.testBit i.val v.val then 1 else 0 := by decide +kernel
theorem bit_i64 (X v : Nat) (hX : X < 64) : bits BinOp.and IntKind.i64 ((X : Int) / 2 ^ min v 64) 1 = if X.testBit v then 1 else 0 := by
  have h := bit_fin ⟨X, hX⟩ ⟨min v 64, by omega⟩
  have key : X.testBit (min v 64) = X.testBit v := by
    rcases Nat.lt_or_ge v 64 with e | e
    · rw [Nat.min_eq_left (by omega)]
    · rw [Nat.min_eq_right e, Nat.testBit_lt_two_pow (Nat.lt_of_lt_of_le hX (by decide)), Nat.testBit_lt_two_pow (Nat.lt_of_lt_of_le hX (Nat.le_trans (show 64 ≤ 2 ^ 6 by decide) (Nat.pow_le_pow_right (by omega) (by omega))))]
  simp only [key] at h
  exact h
/-- Bits of a number. -/
def βN (X : Nat) : Nat → Bool := fun v => X.testBit v
/-- The first so many numbers are as bits tell. -/
def IsI (X : Nat) (c : List Int) (i : Nat) : Prop := ∀ (v : Nat) (x : Int), v < i → c[v]? = some x → x < 0 ∨ x = if βN X v then 1 else 0
theorem IsI.start (X : Nat) (c : List Int) : IsI X c 0 := fun j x h => absurd h (Nat.not_lt_zero j)
theorem IsI.next {X : Nat} {c : List Int} {i : Nat} (h : IsI X c i) {x : Int} (hx : c[i]? = some x) (h3 : x < 0 ∨ x = if βN X i then 1 else 0) : IsI X c (i + 1) := fun j y hj hy => by
  rcases Nat.lt_or_eq_of_le (Nat.le_of_lt_succ hj) with h2 | h2
  · exact h j y h2 hy
  · subst h2; rw [hx] at hy; cases hy; exact h3
theorem IsI.done {X : Nat} {c : List Int} {n : Nat} (h : IsI X c n) (hn : c.length = n) : isB (βN X) 0 c = true := (isB0 _ _).2 fun v x hx => h v x (by have := (List.getElem?_eq_some_iff.1 hx).1; omega) hx
theorem is_out {X : Nat} {c : List Int} {i : Nat} {x : Int} (hx : c[i]? = some x) (h : ¬ (x < 0 ∨ x = if βN X i then 1 else 0)) : isB (βN X) 0 c = false := by
  cases e : isB (βN X) 0 c with
  | false => rfl
  | true => exact absurd ((isB0 _ _).1 e i x hx) h
section
variable {W : World}
set_option maxRecDepth 100000
set_option maxHeartbeats 1600000
theorem lis_spec {X : Nat} (hX : X < 64) {v : Value} {l : List Int} (h : ReadsI W v l) (hlen : l.length ≤ 9223372036854775807) :
    Calls Try.prog 17 #[v, .int .i64 X] W fun e W' => e = .returned (.bool (isB (βN X) 0 l)) ∧ W = W' := by
  obtain ⟨ao, cap, rfl, hcap, hr⟩ := h
  obtain ⟨n, h2⟩ : ∃ n, l.length = n := ⟨_, rfl⟩
  rw [h2] at hcap hr hlen ⊢
  have HL := Lib.hid h2
  have HR := Lib.hid hr
  have HD := Lib.hid (fun (h : IsI X l n) => h.done h2)
  obtain ⟨res, hres⟩ : ∃ res, isB (βN X) 0 l = res := ⟨_, rfl⟩
  rw [hres] at HD ⊢
  have HB := Lib.hid hres
  clear hr hres h2
  go_enter Try.func17, Try.ntmps17
  go_wp2_with fail
  go_loopg [9] n (fun g t wy => ∃ (i : Nat), i ≤ n ∧ g = n - i ∧ t = .int .i64 i ∧ Hid (IsI X l i) ∧ wy = W)
  case atStart => exact ⟨0, Nat.zero_le _, rfl, rfl, IsI.start X l, rfl⟩
  case round =>
    obtain ⟨i, hi, rfl, rfl, HH, rfl⟩ := hrel
    by_cases hlt : i < n
    · have hiI : (i : Int) < (n : Int) := by omega
      have hi0 : (0 : Int) ≤ (i : Int) := by omega
      have hwi : IntKind.i64.wrap ((i : Int) + 1) = (i : Int) + 1 := IntWalk.i64_in _ (by omega)
      obtain ⟨b, off, rfl, hb, hc⟩ := HR.out (by omega)
      obtain ⟨x, hx⟩ : ∃ x, l[i]? = some x := ⟨_, List.getElem?_eq_getElem (by have := HL.out; omega)⟩
      have c := hc i x hx
      have HX := Lib.hid hx
      have hicap : i < cap := by omega
      have hsh := bit_i64 X i hX
      clear hc hx
      by_cases e : x < 0 ∨ x = if βN X i then 1 else 0
      · have HN := Lib.hid (HH.out.next HX.out e)
        clear HH HX
        by_cases e0 : x < 0
        · clear e hsh
          go_wp2_with fail
          go_roundg (n - (i + 1))
          case measure => omega
          case rel => exact ⟨i + 1, by omega, rfl, by go_num, HN, rfl⟩
        · have e1 : bits BinOp.and IntKind.i64 ((X : Int) / 2 ^ min i 64) 1 = x := by rw [hsh]; exact (e.resolve_left e0).symm
          have e2 : (bits BinOp.and IntKind.i64 ((X : Int) / 2 ^ min i 64) 1 != x) = false := by rw [e1]; simp
          have e3 : 0 ≤ x := by omega
          clear e hsh e1
          go_wp2_with fail
          go_roundg (n - (i + 1))
          case measure => omega
          case rel => exact ⟨i + 1, by omega, rfl, by go_num, HN, rfl⟩
      · have hres : res = false := by rw [← HB.out]; exact is_out HX.out e
        subst hres
        have e3 : 0 ≤ x := by
          rcases Int.lt_or_le x 0 with h | h
          · exact absurd (.inl h) e
          · exact h
        have e2 : (bits BinOp.and IntKind.i64 ((X : Int) / 2 ^ min i 64) 1 != x) = true := by
          rw [hsh]
          simp only [bne_iff_ne, ne_eq]
          intro h
          exact e (.inr h.symm)
        clear e HX hsh
        go_wp2_with fail
        go_ret
        exact ⟨rfl, rfl⟩
    · obtain rfl : i = n := by omega
      have hiI : ¬ (i : Int) < (i : Int) := by omega
      have hres : res = true := HD.out HH.out
      subst hres
      go_wp2_with fail
      go_ret
      exact ⟨rfl, rfl⟩
/-- How many of a row are 0 or 1. -/
def litsC : List Int → Nat
  | [] => 0
  | x :: c => (if x = 0 ∨ x = 1 then 1 else 0) + litsC c
theorem litsC_app : ∀ (a b : List Int), litsC (a ++ b) = litsC a + litsC b
  | [], b => by simp [litsC]
  | x :: a, b => by
    show (if x = 0 ∨ x = 1 then 1 else 0) + litsC (a ++ b) = (if x = 0 ∨ x = 1 then 1 else 0) + litsC a + litsC b
    rw [litsC_app a b]; omega
theorem litsC_le : ∀ (a : List Int), litsC a ≤ a.length
  | [] => Nat.le_refl _
  | x :: a => by
    have := litsC_le a
    show (if x = 0 ∨ x = 1 then 1 else 0) + litsC a ≤ a.length + 1
    split <;> omega
theorem litsC_take {c : List Int} {i : Nat} {x : Int} (hx : c[i]? = some x) : litsC (c.take (i + 1)) = litsC (c.take i) + if x = 0 ∨ x = 1 then 1 else 0 := by
  rw [List.take_add_one, hx, litsC_app]
  simp [litsC]
def litsL (L : List (List Int)) : Nat := (L.map litsC).sum
theorem litsL_take {L : List (List Int)} {i : Nat} {c : List Int} (hc : L[i]? = some c) : litsL (L.take (i + 1)) = litsL (L.take i) + litsC c := by
  unfold litsL
  rw [List.take_add_one, hc]
  simp
/-- A slice of slices of numbers. -/
def ReadsII (w : World) (v : Value) (L : List (List Int)) : Prop :=
  ∃ ao cap, v = .slice ao L.length cap ∧ L.length ≤ cap ∧ (0 < L.length → ∃ g off, ao = some ⟨g, off, none⟩ ∧ g < w.heap.size ∧ ∀ (j : Nat) (c : List Int), L[j]? = some c → ∃ v, w.cell? ⟨g, off + j, none⟩ = some v ∧ ReadsI w v c)
theorem ReadsII.keeps {w w' : World} {v : Value} {l : List (List Int)} (h : ReadsII w v l) (hk : Keeps (fun _ => False) w w') : ReadsII w' v l := by
  obtain ⟨ao, cap, hv, hle, hr⟩ := h
  refine ⟨ao, cap, hv, hle, fun h0 => ?_⟩
  obtain ⟨g, off, h1, h2, h3⟩ := hr h0
  refine ⟨g, off, h1, Nat.lt_of_lt_of_le h2 hk.size, fun j x hj => ?_⟩
  obtain ⟨u, a, b⟩ := h3 j x hj
  exact ⟨u, (hk.cell (p := ⟨g, off + j, none⟩) h2 (fun x => x)).trans a, b.keeps hk⟩
theorem literals_spec {v : Value} {L : List (List Int)} (h : ReadsII W v L) (hlen : L.length ≤ 1000) (hc : ∀ c, c ∈ L → c.length ≤ 1000000) :
    Calls Try.prog 22 #[v] W fun e W' => e = .returned (.int .i64 (litsL L)) ∧ W = W' := by
  obtain ⟨ao, cap, rfl, hcap, hr⟩ := h
  obtain ⟨m, h2⟩ : ∃ n, L.length = n := ⟨_, rfl⟩
  rw [h2] at hcap hr hlen ⊢
  have HL := Lib.hid h2
  have HR := Lib.hid hr
  have HC := Lib.hid hc
  have HD : Hid (litsL L = litsL (L.take m)) := by rw [← h2, List.take_length]; exact rfl
  have HQ : Hid (∀ i, i ≤ m → litsL (L.take i) ≤ i * 1000000) := fun i => by
    intro hi
    unfold litsL
    induction i with
    | zero => simp
    | succ i ih =>
      obtain ⟨x, hx⟩ : ∃ x, L[i]? = some x := ⟨_, List.getElem?_eq_getElem (by omega)⟩
      have h3 := litsL_take hx
      unfold litsL at h3
      rw [h3]
      have h4 := ih (by omega)
      have h5 := litsC_le x
      have h6 := hc x (List.mem_of_getElem? hx)
      omega
  clear hr h2 hc
  go_enter Try.func22, Try.ntmps22
  go_wp2_with fail
  go_loopg [2, 9] m (fun g s t wy => ∃ (i : Nat), i ≤ m ∧ g = m - i ∧ s = .int .i64 (litsL (L.take i)) ∧ t = .int .i64 i ∧ wy = W)
  case atStart => exact ⟨0, Nat.zero_le _, rfl, rfl, rfl, rfl⟩
  case round =>
    obtain ⟨i, hi, rfl, rfl, rfl, rfl⟩ := hrel
    by_cases hlt : i < m
    · have hiI : (i : Int) < (m : Int) := by omega
      have hwi : IntKind.i64.wrap ((i : Int) + 1) = (i : Int) + 1 := IntWalk.i64_in _ (by omega)
      obtain ⟨b, off, rfl, hb, hcl⟩ := HR.out (by omega)
      obtain ⟨c, hx⟩ : ∃ x, L[i]? = some x := ⟨_, List.getElem?_eq_getElem (by have := HL.out; omega)⟩
      obtain ⟨u, c0, ac, capc, rfl, hcapc, hrc⟩ := hcl i c hx
      have hicap : i < cap := by omega
      have hcl2 := HC.out c (List.mem_of_getElem? hx)
      have hq := HQ.out i hi
      have HT := Lib.hid (litsL_take hx)
      obtain ⟨n, hn⟩ : ∃ n, c.length = n := ⟨_, rfl⟩
      rw [hn] at hcapc hrc hcl2 c0
      have HLC := Lib.hid hn
      have HRC := Lib.hid hrc
      obtain ⟨Q, hQ⟩ : ∃ Q, litsL (L.take i) = Q := ⟨_, rfl⟩
      have HTC : Hid (litsL (L.take (i + 1)) = Q + litsC (c.take n)) := by rw [← hn, List.take_length, ← hQ]; exact HT.out
      rw [hQ] at hq ⊢
      have HB2 : Hid (∀ j, litsC (c.take j) ≤ n) := fun j => by have := litsC_le (c.take j); rw [List.length_take] at this; omega
      clear hrc hn hcl hx HT hQ
      go_wp2_with fail
      go_loopg [2, 15] n (fun g s t wy => ∃ (j : Nat), j ≤ n ∧ g = n - j ∧ s = .int .i64 ((Q + litsC (c.take j) : Nat) : Int) ∧ t = .int .i64 j ∧ wy = wr)
      case atStart => exact ⟨0, Nat.zero_le _, rfl, rfl, rfl, rfl⟩
      case round =>
        obtain ⟨j, hj, rfl, rfl, rfl, rfl⟩ := hrel
        by_cases hlt2 : j < n
        · have hjI : (j : Int) < (n : Int) := by omega
          have hwj : IntKind.i64.wrap ((j : Int) + 1) = (j : Int) + 1 := IntWalk.i64_in _ (by omega)
          obtain ⟨b2, off2, rfl, hb2, hc2⟩ := HRC.out (by omega)
          obtain ⟨x, hx⟩ : ∃ x, c[j]? = some x := ⟨_, List.getElem?_eq_getElem (by have := HLC.out; omega)⟩
          have c1 := hc2 j x hx
          have hjcap : j < capc := by omega
          have HT := Lib.hid (litsC_take hx)
          have hbd := HB2.out j
          obtain ⟨R, hR⟩ : ∃ R, litsC (c.take j) = R := ⟨_, rfl⟩
          rw [hR] at HT hbd ⊢
          have hwR : IntKind.i64.wrap (((Q + R : Nat) : Int) + 1) = ((Q + R + 1 : Nat) : Int) := by rw [IntWalk.i64_in _ (by omega)]; rfl
          clear hc2 hx hR
          by_cases e : x = 0 ∨ x = 1
          · have HN : Hid (litsC (c.take (j + 1)) = R + 1) := by rw [HT.out, if_pos e]; exact rfl
            rcases e with rfl | rfl
            all_goals
              go_wp2_with fail
              go_roundg (n - (j + 1))
              case measure => omega
              case rel => exact ⟨j + 1, by omega, rfl, by rw [HN.out]; go_num, by go_num, rfl⟩
          · have HN : Hid (litsC (c.take (j + 1)) = R) := by rw [HT.out, if_neg e]; exact rfl
            have e0 : (x == 0) = false := by simpa using fun h : x = 0 => e (.inl h)
            have e1 : (x == 1) = false := by simpa using fun h : x = 1 => e (.inr h)
            clear e
            go_wp2_with fail
            go_roundg (n - (j + 1))
            case measure => omega
            case rel => exact ⟨j + 1, by omega, rfl, by rw [HN.out], by go_num, rfl⟩
        · obtain rfl : j = n := by omega
          have hjI : ¬ (j : Int) < (j : Int) := by omega
          rw [← HTC.out]
          go_wp2_with fail
          go_roundg (m - (i + 1))
          case measure => omega
          case rel => exact ⟨i + 1, by omega, rfl, rfl, by go_num, rfl⟩
    · obtain rfl : i = m := by omega
      have hiI : ¬ (i : Int) < (i : Int) := by omega
      rw [← HD.out]
      go_wp2_with fail
      go_ret
      exact ⟨rfl, rfl⟩
end
end Go.Proofs.Ytloidoekmicloaa
