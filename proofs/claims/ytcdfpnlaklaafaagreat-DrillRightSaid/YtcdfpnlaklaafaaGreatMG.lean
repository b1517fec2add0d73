/-
  A number's decimal digits: the program's and the document's.
-/
import Derived.Test.YtcdfpnlaklaafaaGreatNameMem
import Derived.Laws.IdiomStrings
set_option linter.unusedVariables false
set_option linter.unusedSimpArgs false
set_option linter.unnecessarySimpa false
namespace Go.Proofs.YtcdfpnlaklaafaaGreat
open Go.ChangeShapes Go.WideShapes Go.ChangeAt Go.RowKit Go.Deep
def digU (n : Nat) : UInt8 := UInt8.ofNat (48 + n)
def decL (n : Nat) : Str := if h : n < 10 then [digU n] else decL (n / 10) ++ [digU (n % 10)]
termination_by n
decreasing_by omega
theorem decL_lt {n : Nat} (h : n < 10) : decL n = [digU n] := by rw [decL, dif_pos h]
theorem decL_ge {n : Nat} (h : ¬ n < 10) : decL n = decL (n / 10) ++ [digU (n % 10)] := by rw [decL, dif_neg h]
theorem decL_len : ∀ (b n : Nat), n < b → (decL n).length ≤ n + 1
  | 0, n, h => absurd h (Nat.not_lt_zero _)
  | b + 1, n, h => by
    by_cases h10 : n < 10
    · rw [decL_lt h10]; simp
    · rw [decL_ge h10, List.length_append]
      have := decL_len b (n / 10) (by omega)
      simp only [List.length_cons, List.length_nil]
      omega
theorem digU_toNat {n : Nat} (h : n < 10) : (digU n).toNat = 48 + n := by
  unfold digU
  rw [UInt8.toNat_ofNat']
  omega
set_option maxRecDepth 100000
set_option maxHeartbeats 3200000
end Go.Proofs.YtcdfpnlaklaafaaGreat
/-
  Fresh texts: X1, X2 and so on, but for those that a row has. No program in sight.
-/
set_option linter.unusedVariables false
set_option linter.unusedSimpArgs false
namespace Go.Proofs.YtcdfpnlaklaafaaGreat
def valL (l : Str) : Nat := l.foldl (fun a c => a * 10 + (c.toNat - 48)) 0
theorem val_dec : ∀ (b n : Nat), n < b → valL (decL n) = n
  | 0, n, h => absurd h (Nat.not_lt_zero _)
  | b + 1, n, h => by
    by_cases h10 : n < 10
    · rw [decL_lt h10]
      show 0 * 10 + ((digU n).toNat - 48) = n
      rw [digU_toNat h10]; omega
    · rw [decL_ge h10]
      unfold valL
      rw [List.foldl_append]
      have := val_dec b (n / 10) (by omega)
      unfold valL at this
      rw [this]
      show n / 10 * 10 + ((digU (n % 10)).toNat - 48) = n
      rw [digU_toNat (by omega)]; omega
theorem dec_inj {n m : Nat} (h : decL n = decL m) : n = m := by
  have h1 := val_dec (n + 1) n (by omega)
  have h2 := val_dec (m + 1) m (by omega)
  rw [← h1, ← h2, h]
def xL (k : Nat) : Str := 88 :: decL k
theorem xL_inj {n m : Nat} (h : xL n = xL m) : n = m := dec_inj (List.cons.inj h).2
/-- X1 to XK, but for those of a row. -/
def freshUp (L : List Str) (K : Nat) : List Str := ((List.range' 1 K).map xL).filter fun s => !decide (s ∈ L)
theorem freshUp_succ (L : List Str) (K : Nat) : freshUp L (K + 1) = if xL (K + 1) ∈ L then freshUp L K else freshUp L K ++ [xL (K + 1)] := by
  unfold freshUp
  rw [List.range'_concat, List.map_append, List.filter_append, show 1 + 1 * K = K + 1 by omega]
  by_cases h : xL (K + 1) ∈ L <;> simp [h]
theorem xs_nodup (K : Nat) : ((List.range' 1 K).map xL).Nodup := by
  unfold List.Nodup
  rw [List.pairwise_map]
  exact (List.pairwise_lt_range' (s := 1) (n := K) (step := 1) (by decide)).imp (fun h e => by have := xL_inj e; omega)
theorem fresh_count (L : List Str) (K : Nat) : K ≤ (freshUp L K).length + L.length := by
  have h1 : (((List.range' 1 K).map xL).filter fun s => decide (s ∈ L)).length ≤ L.length := by
    have hn : List.Nodup (((List.range' 1 K).map xL).filter fun s => decide (s ∈ L)) := (xs_nodup K).filter _
    refine List.Nodup.length_le_of_subset hn (fun x hx => ?_)
    exact of_decide_eq_true (List.mem_filter.1 hx).2
  have h2 : ((List.range' 1 K).map xL).length = (((List.range' 1 K).map xL).filter fun s => decide (s ∈ L)).length + (((List.range' 1 K).map xL).filter fun s => !decide (s ∈ L)).length := by
    rw [← List.countP_eq_length_filter, ← List.countP_eq_length_filter]
    have e : (fun s : Str => !decide (s ∈ L)) = fun s => decide ¬(decide (s ∈ L) = true) := by
      funext s
      by_cases h : s ∈ L <;> simp [h]
    rw [e]
    exact List.length_eq_countP_add_countP (fun s => decide (s ∈ L))
  rw [List.length_map, List.length_range'] at h2
  unfold freshUp
  omega
theorem fresh_len (L : List Str) (K : Nat) : (freshUp L K).length ≤ K := by
  unfold freshUp
  refine Nat.le_trans (List.length_filter_le _ _) ?_
  simp
theorem fresh_prefix (L : List Str) (K : Nat) : ∀ d, ∃ t, freshUp L (K + d) = freshUp L K ++ t
  | 0 => ⟨[], by simp⟩
  | d + 1 => by
    obtain ⟨t, ht⟩ := fresh_prefix L K d
    rw [show K + (d + 1) = (K + d) + 1 by omega, freshUp_succ, ht]
    split
    · exact ⟨t, rfl⟩
    · exact ⟨t ++ [xL (K + d + 1)], by rw [List.append_assoc]⟩
theorem fresh_take {L : List Str} {K M : Nat} (h : K ≤ M) : (freshUp L M).take (freshUp L K).length = freshUp L K := by
  obtain ⟨t, ht⟩ := fresh_prefix L K (M - K)
  rw [show K + (M - K) = M by omega] at ht
  rw [ht, List.take_left']
  rfl
/-- So many fresh texts, a thousand at most. -/
def freshL (L : List Str) (n : Int) : List Str := (freshUp L (1000 + L.length)).take (min n 1000).toNat
theorem fresh_done {L : List Str} {K : Nat} {n : Int} (h : (freshUp L K).length = (min n 1000).toNat) : freshUp L K = freshL L n := by
  unfold freshL
  have hc := fresh_count L K
  rw [← h]
  exact (fresh_take (by omega)).symm
theorem freshL_len (L : List Str) (n : Int) : (freshL L n).length = (min n 1000).toNat := by
  unfold freshL
  have hc := fresh_count L (1000 + L.length)
  rw [List.length_take]
  omega
theorem freshL_out {L : List Str} {n : Int} {s : Str} (h : s ∈ freshL L n) : s ∉ L ∧ ∃ k, 1 ≤ k ∧ k ≤ 1000 + L.length ∧ s = xL k := by
  unfold freshL at h
  have h1 := List.mem_of_mem_take h
  unfold freshUp at h1
  obtain ⟨h2, h3⟩ := List.mem_filter.1 h1
  obtain ⟨k, hk, rfl⟩ := List.mem_map.1 h2
  rw [List.mem_range'_1] at hk
  refine ⟨fun hm => ?_, k, hk.1, by omega, rfl⟩
  rw [decide_eq_true hm] at h3
  cases h3
/-- The document's: what has been gathered. -/
theorem fresh_step (L : List Str) (K t : Nat) : (freshUp L (K + 1)).take t = if (freshUp L K).length < t ∧ xL (K + 1) ∉ L then (freshUp L K).take t ++ [xL (K + 1)] else (freshUp L K).take t := by
  rw [freshUp_succ]
  by_cases h : xL (K + 1) ∈ L
  · rw [if_pos h, if_neg (fun q => q.2 h)]
  · rw [if_neg h]
    by_cases h2 : (freshUp L K).length < t
    · rw [if_pos ⟨h2, h⟩, List.take_of_length_le (by simp; omega), List.take_of_length_le (by omega)]
    · rw [if_neg (fun q => h2 q.1), List.take_append_of_le_length (by omega)]
end Go.Proofs.YtcdfpnlaklaafaaGreat
