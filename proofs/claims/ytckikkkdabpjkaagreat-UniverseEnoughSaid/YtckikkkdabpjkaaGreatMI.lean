/-
 A number's decimal digits: the program's and the document's.
-/
import Derived.Test.YtckikkkdabpjkaaGreatMD
import Derived.Laws.IdiomStrings
import Derived.Test.YtckikkkdabpjkaaGreatKitSq
set_option linter.unusedVariables false
set_option linter.unusedSimpArgs false
set_option linter.unnecessarySimpa false
namespace Go.Proofs.YtckikkkdabpjkaaGreat
open Go.ChangeShapes Go.WideShapes Go.ChangeAt Go.RowKit Go.Deep
def digU (n : Nat) : UInt8 := UInt8.ofNat (48 + n)
def decL (n : Nat) : Str := if h : n < 10 then [digU n] else decL (n / 10) ++ [digU (n % 10)]
termination_by n
decreasing_by omega
theorem decL_lt {n : Nat} (h : n < 10) : decL n = [digU n] := by rw [decL, dif_pos h]
theorem decL_ge {n : Nat} (h : ¬ n < 10) : decL n = decL (n / 10) ++ [digU (n % 10)] := by rw [decL, dif_neg h]
theorem decL_len : ∀ (b n : Nat), n < b → (decL n).length ≤ n + 1
 | 0, n, h => absurd h (Nat.not_lt_zero _)
 | b + 1, n, h => by
  by_cases h10 : n < 10
  ·rw [decL_lt h10]; simp
  ·rw [decL_ge h10, List.length_append]
   have := decL_len b (n / 10) (by omega)
   simp only [List.length_cons, List.length_nil]
   omega
theorem digU_toNat {n : Nat} (h : n < 10) : (digU n).toNat = 48 + n := by
 unfold digU
 rw [UInt8.toNat_ofNat']
 omega
set_option maxRecDepth 100000
set_option maxHeartbeats 3200000
theorem dec_small (n : Nat) (h : n < 10) (W : World) : Calls Tryz.prog 120 #[.int .i64 (n : Int)] W fun e W' => e = .returned (.string ⟨[digU n].toArray⟩) ∧ W = W' := by
 have hc : n = 0 ∨ n = 1 ∨ n = 2 ∨ n = 3 ∨ n = 4 ∨ n = 5 ∨ n = 6 ∨ n = 7 ∨ n = 8 ∨ n = 9 := by omega
 go_enter Tryz.func120, Tryz.ntmps120
 rcases hc with rfl | rfl | rfl | rfl | rfl | rfl | rfl | rfl | rfl | rfl
 all_goals
  go_wp2_with fail
  go_ret
  exact ⟨by rfl, rfl⟩
theorem dec_spec : ∀ (b n : Nat), n < b → n ≤ 1000000 → ∀ W : World, Calls Tryz.prog 120 #[.int .i64 (n : Int)] W fun e W' => e = .returned (.string ⟨(decL n).toArray⟩) ∧ W = W'
 | 0, n, h, _, _ => absurd h (Nat.not_lt_zero _)
 | b + 1, n, h, hm, W => by
  by_cases h10 : n < 10
  ·rw [decL_lt h10]; exact dec_small n h10 W
  ·obtain ⟨q, hq⟩ : ∃ q, n / 10 = q := ⟨_, rfl⟩
   obtain ⟨r, hr⟩ : ∃ r, n % 10 = r := ⟨_, rfl⟩
   have HQ : Hid (Calls Tryz.prog 120 #[.int .i64 (q : Int)] W fun e W' => e = .returned (.string ⟨(decL q).toArray⟩) ∧ W = W') := dec_spec b q (by omega) (by omega) W
   have HR := Lib.hid (dec_small r (by omega) W)
   have HD : Hid (decL n = decL q ++ [digU r]) := by show _ = _; rw [decL_ge h10, hq, hr]
   have hlq := decL_len (q + 1) q (by omega)
   have hadd : (Op.stringOp .add ⟨(decL q).toArray⟩ ⟨[digU r].toArray⟩).run Tryz.prog W = .ok (.string ⟨(decL q ++ [digU r]).toArray⟩) W := run_string_add_lists W _ _ (by omega) (by simp)
   have h10I : ¬ (n : Int) < 10 := by omega
   have hq1 : (n : Int).tdiv 10 = (q : Int) := by rw [Int.tdiv_eq_ediv_of_nonneg (by omega)]; omega
   have hq2 : (n : Int) / 10 = (q : Int) := by omega
   have hr2 : (n : Int) % 10 = (r : Int) := by omega
   have hr1 : (n : Int).tmod 10 = (r : Int) := by rw [Int.tmod_eq_emod_of_nonneg (by omega)]; exact hr2
   clear hq hr hlq
   generalize hdl : decL q = dl at *
   clear hdl
   go_enter Tryz.func120, Tryz.ntmps120
   go_wp2_with fail
   refine HQ.out.mono ?_
   rintro e w' ⟨rfl, rfl⟩
   go_wp2_with fail
   refine HR.out.mono ?_
   rintro e w' ⟨rfl, rfl⟩
   go_wp2_with fail
   go_ret
   exact ⟨by rw [HD.out]; rfl, rfl⟩
end Go.Proofs.YtckikkkdabpjkaaGreat
/-
 Fresh texts: X1, X2 and so on, but for those that a row has. No program in sight.
-/
set_option linter.unusedVariables false
set_option linter.unusedSimpArgs false
namespace Go.Proofs.YtckikkkdabpjkaaGreat
def valL (l : Str) : Nat := l.foldl (fun a c => a * 10 + (c.toNat - 48)) 0
theorem val_dec : ∀ (b n : Nat), n < b → valL (decL n) = n
 | 0, n, h => absurd h (Nat.not_lt_zero _)
 | b + 1, n, h => by
  by_cases h10 : n < 10
  ·rw [decL_lt h10]
   show 0 * 10 + ((digU n).toNat - 48) = n
   rw [digU_toNat h10]; omega
  ·rw [decL_ge h10]
   unfold valL
   rw [List.foldl_append]
   have := val_dec b (n / 10) (by omega)
   unfold valL at this
   rw [this]
   show n / 10 * 10 + ((digU (n % 10)).toNat - 48) = n
   rw [digU_toNat (by omega)]; omega
theorem dec_inj {n m : Nat} (h : decL n = decL m) : n = m := by
 have h1 := val_dec (n + 1) n (by omega)
 have h2 := val_dec (m + 1) m (by omega)
 rw [← h1, ← h2, h]
def xL (k : Nat) : Str := 88 :: decL k
theorem xL_inj {n m : Nat} (h : xL n = xL m) : n = m := dec_inj (List.cons.inj h).2
/-- X1 to XK, but for those of a row. -/
def freshUp (L : List Str) (K : Nat) : List Str := ((List.range' 1 K).map xL).filter fun s => !decide (s ∈ L)
theorem freshUp_succ (L : List Str) (K : Nat) : freshUp L (K + 1) = if xL (K + 1) ∈ L then freshUp L K else freshUp L K ++ [xL (K + 1)] := by
 unfold freshUp
 rw [List.range'_concat, List.map_append, List.filter_append, show 1 + 1 * K = K + 1 by omega]
 by_cases h : xL (K + 1) ∈ L <;> simp [h]
theorem xs_nodup (K : Nat) : ((List.range' 1 K).map xL).Nodup := by
 unfold List.Nodup
 rw [List.pairwise_map]
 exact (List.pairwise_lt_range' (s := 1) (n := K) (step := 1) (by decide)).imp (fun h e => by have := xL_inj e; omega)
theorem fresh_count (L : List Str) (K : Nat) : K ≤ (freshUp L K).length + L.length := by
 have h1 : (((List.range' 1 K).map xL).filter fun s => decide (s ∈ L)).length ≤ L.length := by
  have hn : List.Nodup (((List.range' 1 K).map xL).filter fun s => decide (s ∈ L)) := (xs_nodup K).filter _
  refine List.Nodup.length_le_of_subset hn (fun x hx => ?_)
  exact of_decide_eq_true (List.mem_filter.1 hx).2
 have h2 : ((List.range' 1 K).map xL).length = (((List.range' 1 K).map xL).filter fun s => decide (s ∈ L)).length + (((List.range' 1 K).map xL).filter fun s => !decide (s ∈ L)).length := by
  rw [← List.countP_eq_length_filter, ← List.countP_eq_length_filter]
  have e : (fun s : Str => !decide (s ∈ L)) = fun s => decide ¬(decide (s ∈ L) = true) := by
   funext s
   by_cases h : s ∈ L <;> simp [h]
  rw [e]
  exact List.length_eq_countP_add_countP (fun s => decide (s ∈ L))
 rw [List.length_map, List.length_range'] at h2
 unfold freshUp
 omega
theorem fresh_prefix (L : List Str) (K : Nat) : ∀ d, ∃ t, freshUp L (K + d) = freshUp L K ++ t
 | 0 => ⟨[], by simp⟩
 | d + 1 => by
  obtain ⟨t, ht⟩ := fresh_prefix L K d
  rw [show K + (d + 1) = (K + d) + 1 by omega, freshUp_succ, ht]
  split
  ·exact ⟨t, rfl⟩
  ·exact ⟨t ++ [xL (K + d + 1)], by rw [List.append_assoc]⟩
theorem fresh_take {L : List Str} {K M : Nat} (h : K ≤ M) : (freshUp L M).take (freshUp L K).length = freshUp L K := by
 obtain ⟨t, ht⟩ := fresh_prefix L K (M - K)
 rw [show K + (M - K) = M by omega] at ht
 rw [ht, List.take_left']
 rfl
/-- So many fresh texts, a thousand at most. -/
def freshL (L : List Str) (n : Int) : List Str := (freshUp L (1000 + L.length)).take (min n 1000).toNat
theorem fresh_done {L : List Str} {K : Nat} {n : Int} (h : (freshUp L K).length = (min n 1000).toNat) : freshUp L K = freshL L n := by
 unfold freshL
 have hc := fresh_count L K
 rw [← h]
 exact (fresh_take (by omega)).symm
theorem freshL_len (L : List Str) (n : Int) : (freshL L n).length = (min n 1000).toNat := by
 unfold freshL
 have hc := fresh_count L (1000 + L.length)
 rw [List.length_take]
 omega
theorem freshL_out {L : List Str} {n : Int} {s : Str} (h : s ∈ freshL L n) : s ∉ L ∧ ∃ k, 1 ≤ k ∧ k ≤ 1000 + L.length ∧ s = xL k := by
 unfold freshL at h
 have h1 := List.mem_of_mem_take h
 unfold freshUp at h1
 obtain ⟨h2, h3⟩ := List.mem_filter.1 h1
 obtain ⟨k, hk, rfl⟩ := List.mem_map.1 h2
 rw [List.mem_range'_1] at hk
 refine ⟨fun hm => ?_, k, hk.1, by omega, rfl⟩
 rw [decide_eq_true hm] at h3
 cases h3
end Go.Proofs.YtckikkkdabpjkaaGreat
/-
 Where a text is in a table: the library's search in halves, and Find.
-/
set_option linter.unusedVariables false
set_option linter.unusedSimpArgs false
set_option linter.unnecessarySimpa false
namespace Go.Proofs.YtckikkkdabpjkaaGreat
open Go.ChangeShapes Go.WideShapes Go.ChangeAt Go.RowKit Go.Deep
set_option maxRecDepth 100000
set_option maxHeartbeats 3200000
theorem cnan_spec (s : ByteArray) (w : World) : Calls Tryz.prog 227 #[.string s] w fun e w' => e = .returned (.bool false) ∧ w = w' := by
 go_enter Tryz.func227, Tryz.ntmps227
 go_wp2_with fail
 go_ret
 exact ⟨by simp, rfl⟩
theorem snan_spec (s : ByteArray) (w : World) : Calls Tryz.prog 205 #[.string s] w fun e w' => e = .returned (.bool false) ∧ w = w' := by
 go_enter Tryz.func205, Tryz.ntmps205
 go_wp2_with fail
 go_ret
 exact ⟨by simp, rfl⟩
theorem cless_spec (x y : Str) (w : World) : Calls Tryz.prog 200 #[.string ⟨x.toArray⟩, .string ⟨y.toArray⟩] w fun e w' => e = .returned (.bool (decide (x < y))) ∧ w = w' := by
 have HN := Lib.hid (fun s w => cnan_spec s w)
 go_enter Tryz.func200, Tryz.ntmps200
 go_wp2_with fail
 refine (HN.out _ _).mono ?_
 rintro e w' ⟨rfl, rfl⟩
 go_wp2_with fail
 go_ret
 refine ⟨?_, rfl⟩
 rw [← Go.Proofs.bytesLess_eq]
 rfl
/-- The search in halves, of a row that rises. -/
theorem bsearch_spec {W : World} {v : Value} {L : List Str} (h : ReadsS W v L) (hr : L.Pairwise (· < ·)) (hn : L.length ≤ 100000) (s : Str) :
 Calls Tryz.prog 174 #[v, .string ⟨s.toArray⟩] W fun e W' => ∃ i : Nat, e = .returned (.tuple #[.int .i64 (i : Int), .bool (decide (s ∈ L))]) ∧ (s ∈ L → atL L s = (i : Int)) ∧ W = W' := by
 obtain ⟨ao, cap, rfl, hle, hc⟩ := h
 obtain ⟨n, hln⟩ : ∃ n, L.length = n := ⟨_, rfl⟩
 rw [hln] at hle hc hn ⊢
 have HC := Lib.hid hc
 have HR := Lib.hid hr
 have HL := Lib.hid hln
 have HLE : Hid (∀ (x y : Str) (w : World), Calls Tryz.prog 200 #[.string ⟨x.toArray⟩, .string ⟨y.toArray⟩] w fun e w' => e = .returned (.bool (decide (x < y))) ∧ w = w') := cless_spec
 have HNA := Lib.hid (fun s w => snan_spec s w)
 clear hc hr hln
 go_enter Tryz.func174, Tryz.ntmps174
 go_wp2_with fail
 go_loopg [7, 8] n (fun g s7 s8 wr => ∃ lo hi : Nat, s7 = .int .i64 lo ∧ s8 = .int .i64 hi ∧ lo ≤ hi ∧ hi ≤ n ∧ hi - lo ≤ g ∧ wr = W ∧ Hid ((∀ t x, L[t]? = some x → t < lo → x < s) ∧ (∀ t x, L[t]? = some x → hi ≤ t → s ≤ x)))
 case atStart => exact ⟨0, n, rfl, rfl, Nat.zero_le _, Nat.le_refl _, by omega, rfl, fun t x _ ht => absurd ht (Nat.not_lt_zero _), fun t x hx h1 => by
  have := HL.out
  rw [List.getElem?_eq_none (by omega)] at hx; cases hx⟩
 case round =>
  obtain ⟨lo, hi, rfl, rfl, hlh, hin, hg, rfl, HI⟩ := hrel
  by_cases hlt : lo < hi
  ·have hltI : (lo : Int) < (hi : Int) := by omega
   obtain ⟨y, hy⟩ : ∃ y, L[(lo + hi) / 2]? = some y := ⟨_, List.getElem?_eq_getElem (by rw [HL.out]; omega)⟩
   obtain ⟨g0, off, rfl, hg0, hcell⟩ := HC.out (by omega)
   have cm : wr.cell? ⟨g0, off + (lo + hi) / 2, none⟩ = some (.string ⟨y.toArray⟩) := hcell _ _ hy
   have HY := Lib.hid hy
   have hmc : (lo + hi) / 2 < cap := by omega
   clear hy hcell
   obtain ⟨b, hb⟩ : ∃ b, decide (y < s) = b := ⟨_, rfl⟩
   have HB := Lib.hid hb
   have HLY := Lib.hid (HLE.out y s wr)
   rw [hb] at HLY
   clear hb
   cases b with
   | true =>
    have hys : y < s := of_decide_eq_true HB.out
    have HN : Hid ((∀ t x, L[t]? = some x → t < (lo + hi) / 2 + 1 → x < s) ∧ (∀ t x, L[t]? = some x → hi ≤ t → s ≤ x)) := ⟨fun t x hx ht => by
     rcases Nat.lt_or_eq_of_le (Nat.le_of_lt_succ ht) with q | q
     ·exact str_trans (rises_get HR.out hx HY.out q) hys
     ·subst q
      have := HY.out
      rw [hx] at this
      obtain rfl := Option.some.inj this
      exact hys, HI.out.2⟩
    clear HI HB HY hys
    go_wp2_with fail
    refine HLY.out.mono ?_
    rintro e w' ⟨rfl, rfl⟩
    go_wp2_with fail
    go_roundg (hi - ((lo + hi) / 2 + 1))
    case measure => omega
    case rel => exact ⟨(lo + hi) / 2 + 1, hi, by rw [show ((lo : Int) + (hi : Int)) / 2 + 1 = (((lo + hi) / 2 + 1 : Nat) : Int) by omega], rfl, by omega, hin, Nat.le_refl _, rfl, HN⟩
   | false =>
    have hys : ¬ y < s := of_decide_eq_false HB.out
    have HN : Hid ((∀ t x, L[t]? = some x → t < lo → x < s) ∧ (∀ t x, L[t]? = some x → (lo + hi) / 2 ≤ t → s ≤ x)) := ⟨HI.out.1, fun t x hx ht => by
     have hsy : s ≤ y := List.not_lt.1 hys
     rcases Nat.lt_or_eq_of_le ht with q | q
     ·exact str_le.2 (.inl (str_le_lt hsy (rises_get HR.out HY.out hx q)))
     ·subst q
      have := HY.out
      rw [hx] at this
      obtain rfl := Option.some.inj this
      exact hsy⟩
    clear HI HB HY hys
    go_wp2_with fail
    refine HLY.out.mono ?_
    rintro e w' ⟨rfl, rfl⟩
    go_wp2_with fail
    go_roundg ((lo + hi) / 2 - lo)
    case measure => omega
    case rel => exact ⟨lo, (lo + hi) / 2, rfl, by rw [show ((lo : Int) + (hi : Int)) / 2 = (((lo + hi) / 2 : Nat) : Int) by omega], by omega, by omega, Nat.le_refl _, rfl, HN⟩
  ·obtain rfl : lo = hi := by omega
   have hltI : ¬ (lo : Int) < (lo : Int) := by omega
   by_cases hn2 : lo < n
   ·have hnI : (lo : Int) < (n : Int) := by omega
    obtain ⟨y, hy⟩ : ∃ y, L[lo]? = some y := ⟨_, List.getElem?_eq_getElem (by rw [HL.out]; exact hn2)⟩
    obtain ⟨g0, off, rfl, hg0, hcell⟩ := HC.out (by omega)
    have cm : wr.cell? ⟨g0, off + lo, none⟩ = some (.string ⟨y.toArray⟩) := hcell _ _ hy
    have hmc : lo < cap := by omega
    have hsy := HI.out.2 lo y hy (Nat.le_refl _)
    by_cases hys : y = s
    ·subst hys
     have HE : Hid (decide (y ∈ L) = true ∧ atL L y = (lo : Int)) := ⟨decide_eq_true (List.mem_of_getElem? hy), at_get HR.out hy⟩
     clear HI hy hcell hsy
     go_wp2_with fail
     first | go_ret | go_ret2
     refine ⟨lo, ?_, fun _ => HE.out.2, rfl⟩
     rw [HE.out.1]
     first | rfl | simp
    ·have hbe : (y == s) = false := beq_eq_false_iff_ne.2 hys
     have HE : Hid (s ∉ L) := fun hm => by
      obtain ⟨t, ht, he⟩ := List.mem_iff_getElem.1 hm
      have htx : L[t]? = some s := by rw [List.getElem?_eq_getElem ht, he]
      rcases Nat.lt_trichotomy t lo with q | q | q
      ·exact str_irrefl s (HI.out.1 t s htx q)
      ·subst q
       rw [htx] at hy
       exact hys (Option.some.inj hy).symm
      ·exact str_irrefl s (str_le_lt hsy (rises_get HR.out hy htx q))
     have HNY := Lib.hid (HNA.out ⟨y.toArray⟩ wr)
     clear HI hy hcell hsy hys
     go_wp2_with fail
     refine HNY.out.mono ?_
     rintro e w' ⟨rfl, rfl⟩
     go_wp2_with fail
     first | go_ret | go_ret2
     refine ⟨lo, ?_, fun h => absurd h HE.out, rfl⟩
     rw [decide_eq_false HE.out]
     first | rfl | simp
   ·obtain rfl : lo = n := by omega
    have HE : Hid (s ∉ L) := fun hm => by
     obtain ⟨t, ht, he⟩ := List.mem_iff_getElem.1 hm
     have htx : L[t]? = some s := by rw [List.getElem?_eq_getElem ht, he]
     exact str_irrefl s (HI.out.1 t s htx (by rw [← HL.out]; exact ht))
    clear HI
    go_wp2_with fail
    first | go_ret | go_ret2
    refine ⟨lo, ?_, fun h => absurd h HE.out, rfl⟩
    rw [decide_eq_false HE.out]
    first | rfl | simp
/-- Where a text is in a table. -/
theorem names_find {W : World} {p : Nat} {L : List Str} (h : Tab W p L) (hr : L.Pairwise (· < ·)) (hn : L.length ≤ 100000) (s : Str) :
 Calls Tryz.prog 121 #[.pointer (some ⟨p, 0, none⟩), .string ⟨s.toArray⟩] W fun e W' => e = .returned (.int .i64 (atL L s)) ∧ W = W' := by
 obtain ⟨v, h1, h2, h3⟩ := h
 have HB := Lib.hid (bsearch_spec h3 hr hn s)
 clear h3
 go_enter Tryz.func121, Tryz.ntmps121
 go_wp2_with fail
 refine HB.out.mono ?_
 rintro e w' ⟨i, rfl, hi, rfl⟩
 by_cases hm : s ∈ L
 ·have hd : decide (s ∈ L) = true := decide_eq_true hm
  rw [hd]
  have HE := Lib.hid (hi hm)
  clear hi HB
  go_wp2_with fail
  go_ret
  exact ⟨by rw [HE.out]; rfl, rfl⟩
 ·have hd : decide (s ∈ L) = false := decide_eq_false hm
  rw [hd]
  have HE := Lib.hid (at_out hm)
  clear hi HB
  go_wp2_with fail
  go_ret
  exact ⟨by rw [HE.out]; rfl, rfl⟩
end Go.Proofs.YtckikkkdabpjkaaGreat
/-
 Fresh texts: the program's; two rows of the same texts.
-/
set_option linter.unusedVariables false
set_option linter.unusedSimpArgs false
set_option linter.unnecessarySimpa false
namespace Go.Proofs.YtckikkkdabpjkaaGreat
open Go.ChangeShapes Go.WideShapes Go.ChangeAt Go.RowKit Go.Deep
set_option maxRecDepth 100000
set_option maxHeartbeats 3200000
theorem names_fresh_own {W : World} {p : Nat} {L : List Str} (h : Tab W p L) (hr : L.Pairwise (· < ·)) (hn : L.length ≤ 1000) (n : Int) (hn0 : -9223372036854775808 ≤ n) (hn1 : n ≤ 9223372036854775807) :
 Calls Tryz.prog 68 #[.pointer (some ⟨p, 0, none⟩), .int .i64 n] W fun e W' => ∃ v, e = .returned v ∧ Hid (KF W W' ∧ OwnS W.heap.size W' v (freshL L n)) := by
 obtain ⟨i0, hi0, hz0, hz1, hz2⟩ := info_parts sinfo
 obtain ⟨m, hm⟩ : ∃ m, min n 1000 = m := ⟨_, rfl⟩
 have HT := Lib.hid h
 have HFI : Hid (∀ (W' : World) (s : Str), KF W W' → Calls Tryz.prog 121 #[.pointer (some ⟨p, 0, none⟩), .string ⟨s.toArray⟩] W' fun e w' => e = .returned (.int .i64 (atL L s)) ∧ W' = w') := fun W' s hk => names_find (h.keeps hk) hr (by omega) s
 have HDC : Hid (∀ (k : Nat) (W' : World), k ≤ 1000000 → Calls Tryz.prog 120 #[.int .i64 (k : Int)] W' fun e w' => e = .returned (.string ⟨(decL k).toArray⟩) ∧ W' = w') := fun k W' hk => dec_spec (k + 1) k (by omega) hk W'
 have hm1000 : m ≤ 1000 := by omega
 have HM := Lib.hid hm
 clear h
 go_enter Tryz.func68, Tryz.ntmps68
 go_wp2_with fail
 go_loopg [4, 5] (m.toNat + L.length + 1) (fun g ov t wy => ∃ K : Nat, t = .int .i64 ((K : Int) + 1) ∧ (freshUp L K).length ≤ m.toNat ∧ g = m.toNat + L.length + 1 - K ∧ Hid (KF W wy ∧ OwnS W.heap.size wy ov (freshUp L K)))
 case atStart => exact ⟨0, rfl, Nat.zero_le _, rfl, Keeps.refl _ _, World.ownsRow_nil _ _ _ _⟩
 case round =>
  obtain ⟨K, rfl, hlen, rfl, HI⟩ := hrel
  have hcnt := fresh_count L K
  obtain ⟨ln, hln⟩ : ∃ ln, (freshUp L K).length = ln := ⟨_, rfl⟩
  obtain ⟨ao, cap, hv, hcp, _⟩ := own_form HI.out.2
  rw [hln] at hv hcnt hlen
  have HLN := Lib.hid hln
  have HVV := Lib.hid hv
  have HI2 : Hid (OwnS W.heap.size wr (.slice ao ln cap) (freshUp L K)) := by rw [← hv]; exact HI.out.2
  have HK := Lib.hid HI.out.1
  subst hv
  clear hln hcp HI
  by_cases hlt : (ln : Int) < m
  ·have hltI : (ln : Int) < m := hlt
   have hk1 : K + 1 ≤ 1000000 := by omega
   have hwk : IntKind.i64.wrap ((K : Int) + 1 + 1) = (K : Int) + 1 + 1 := IntWalk.i64_in _ (by omega)
   have hcK : ((K : Int) + 1) = ((K + 1 : Nat) : Int) := by omega
   have HD1 : Hid (Calls Tryz.prog 120 #[.int .i64 ((K : Int) + 1)] wr fun e w' => e = .returned (.string ⟨(decL (K + 1)).toArray⟩) ∧ wr = w') := by rw [hcK]; exact HDC.out (K + 1) wr hk1
   have hdl := decL_len (K + 2) (K + 1) (by omega)
   have hadd : (Op.stringOp .add ⟨#[88]⟩ ⟨(decL (K + 1)).toArray⟩).run Tryz.prog wr = .ok (.string ⟨(xL (K + 1)).toArray⟩) wr := run_string_add_lists wr [88] _ (by simp) (by omega)
   have HF1 := Lib.hid (HFI.out wr (xL (K + 1)) HK.out)
   have HFS := Lib.hid (freshUp_succ L K)
   clear hcK hdl hcnt
   by_cases hin : xL (K + 1) ∈ L
   ·have HA := Lib.hid (at_in hin)
    have HN : Hid (freshUp L (K + 1) = freshUp L K) := by show _ = _; rw [HFS.out, if_pos hin]
    generalize hdg : decL (K + 1) = dl at *
    generalize hxg : xL (K + 1) = xl at *
    obtain ⟨ix, hix⟩ : ∃ ix, L.idxOf xl = ix := ⟨_, rfl⟩
    have hAL : atL L xl = (ix : Int) := by rw [HA.out, hix]
    have hixI : ¬ (ix : Int) < 0 := by omega
    clear hdg hxg HA HFS hin hix
    rw [hAL] at HF1
    clear hAL
    go_wp2_with fail
    refine HD1.out.mono ?_
    rintro e w' ⟨rfl, rfl⟩
    go_wp2_with fail
    refine HF1.out.mono ?_
    rintro e w' ⟨rfl, rfl⟩
    go_wp2_with fail
    go_roundg (m.toNat + L.length + 1 - (K + 1))
    case measure => have := fresh_count L K; rw [HLN.out] at this; omega
    case rel => exact ⟨K + 1, by go_num, by rw [HN.out, HLN.out]; omega, rfl, by rw [HN.out]; exact ⟨HK.out, HI2.out⟩⟩
   ·have HN : Hid (freshUp L (K + 1) = freshUp L K ++ [xL (K + 1)]) := by show _ = _; rw [HFS.out, if_neg hin]
    have hAL := at_out hin
    generalize hdg : decL (K + 1) = dl at *
    generalize hxg : xL (K + 1) = xl at *
    clear hdg hxg HFS hin
    rw [hAL] at HF1
    clear hAL
    have HOW : Hid (wr.ownsRow W.heap.size 9 1 (.slice ao ln cap) (freshUp L K).length (sCells (freshUp L K))) := HI2.out
    rw [HLN.out] at HOW
    have hsz := HK.out.size
    go_wp2_with fail
    refine HD1.out.mono ?_
    rintro e w' ⟨rfl, rfl⟩
    go_wp2_with fail
    refine HF1.out.mono ?_
    rintro e w' ⟨rfl, rfl⟩
    go_wp2_with (at_builtin; refine wpList_append_own _ rfl _ _ 29 rfl W.heap.size 9 i0 _ 1 16 Tryz.underlying29 hi0 hz0 hz1 hz2 rfl (by decide) _ _ _ rfl (HOW.out.alloc _) ⟨wr.heap.size, 0, none⟩ 1 1 [.string ⟨xl.toArray⟩] rfl rfl (cells_new wr _ _) (by intro u hu; simp only [List.mem_cons, List.not_mem_nil, or_false] at hu; subst hu; rfl) (by unfold maxLen; omega) (by omega) (by simp; omega) ?_)
    intro v2 w6 hown2 hgrow _
    have HNN : Hid (KF W w6 ∧ OwnS W.heap.size w6 v2 (freshUp L (K + 1))) := by
     refine ⟨?_, ?_⟩
     ·exact (HK.out.trans ((Keeps.refl (fun _ => False) wr).alloc _)).trans_new (keeps_grown hgrow) (fun q hq e => by have := own_block HOW.out q e; omega)
     ·show w6.ownsRow _ _ _ _ (freshUp L (K + 1)).length (sCells (freshUp L (K + 1)))
      rw [HN.out, sCells_snoc, List.length_append, HLN.out]
      exact hown2
    clear hown2 hgrow HOW HK HI2
    go_wp2_with fail
    go_roundg (m.toNat + L.length + 1 - (K + 1))
    case measure => have := fresh_count L K; rw [HLN.out] at this; omega
    case rel => exact ⟨K + 1, by go_num, by rw [HN.out, List.length_append, HLN.out]; simp only [List.length_cons, List.length_nil]; omega, rfl, HNN⟩
  ·have hltI : ¬ (ln : Int) < m := hlt
   have HE : Hid (KF W wr ∧ OwnS W.heap.size wr (.slice ao ln cap) (freshL L n)) := by
    have e : freshUp L K = freshL L n := fresh_done (by rw [HLN.out, show min n 1000 = m from HM.out]; omega)
    rw [← e]
    exact ⟨HK.out, HI2.out⟩
   clear HI2 HK
   go_wp2_with fail
   go_ret
   exact ⟨_, rfl, HE⟩
theorem ref_same {w : World} {u v : Value} {a b : List Str} (hu : ReadsS w u a) (hv : ReadsS w v b) (ha : a.length ≤ 1000000) (hab : a = b) :
 Calls Tryz.prog 63 #[u, v] w fun e w' => e = .returned (.bool true) ∧ ∃ nq, w' = w.drewN nq := by
 subst hab
 obtain ⟨au, cu, rfl, hcu0, hru⟩ := hu
 obtain ⟨av, cv, rfl, hcv0, hrv⟩ := hv
 obtain ⟨n, hn⟩ : ∃ n, a.length = n := ⟨_, rfl⟩
 rw [hn] at hcu0 hcv0 hru hrv ha ⊢
 have HU := Lib.hid hru; have HV := Lib.hid hrv; have HN := Lib.hid hn
 clear hru hrv hn
 go_enter Tryz.func63, Tryz.ntmps63
 go_wp2_with fail
 go_loopg [13] n (fun g s wr => ∃ k nq : Nat, k ≤ n ∧ g = n - k ∧ s = .int .i64 k ∧ wr = w.drewN nq)
 case atStart => exact ⟨0, 0, Nat.zero_le _, rfl, rfl, rfl⟩
 case round =>
  obtain ⟨k, nq, hk, rfl, rfl, rfl⟩ := hrel
  by_cases hlt : k < n
  ·obtain ⟨gu, ou, rfl, hgu, hcu⟩ := HU.out (by omega)
   obtain ⟨gv, ov, rfl, hgv, hcv⟩ := HV.out (by omega)
   obtain ⟨x, hx⟩ : ∃ x, a[k]? = some x := ⟨_, List.getElem?_eq_getElem (by rw [HN.out]; exact hlt)⟩
   have cu1 : w.cell? ⟨gu, ou + k, none⟩ = some (.string ⟨x.toArray⟩) := hcu k x hx
   have cv1 : w.cell? ⟨gv, ov + k, none⟩ = some (.string ⟨x.toArray⟩) := hcv k x hx
   have hkI : (k : Int) < (n : Int) := by omega
   have hku : k < cu := by omega
   have hkv : k < cv := by omega
   clear hcu hcv hx
   go_wp2_with fail
   go_quiet (fail)
   go_wp2_with fail
   go_roundg (n - (k + 1))
   case measure => omega
   case rel => exact ⟨k + 1, _, by omega, rfl, by go_num, rfl⟩
  ·obtain rfl : k = n := by omega
   have hkI : ¬ (k : Int) < (k : Int) := by omega
   go_wp2_with fail
   go_ret
   exact ⟨rfl, _, rfl⟩
end Go.Proofs.YtckikkkdabpjkaaGreat
