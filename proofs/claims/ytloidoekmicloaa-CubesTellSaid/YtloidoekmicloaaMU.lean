/-
  Cubes in memory; a diagram's halves, and its first variable.
-/
import Derived.Test.YtloidoekmicloaaCubeOps
import Derived.Test.YtloidoekmicloaaOrdRows
import Derived.Test.YtloidoekmicloaaIteMade
import Derived.Deep.LoopGhost
import Derived.Deep.QuietTactic
import Derived.BigQuiet
import Derived.RegionTactic
import Derived.BigRegion
import Derived.Lib.AppendZerosOnto
import Derived.Laws.AppendOwnNone
set_option linter.unusedVariables false
set_option linter.unusedSimpArgs false
set_option linter.unnecessarySimpa false
namespace Go.Proofs.Ytloidoekmicloaa
open Go.ChangeShapes Go.WideShapes Go.ChangeAt Go.RowKit Go.Deep NodePlain
/-- A cube's numbers in a block of its own. -/
def crow (c : List Int) : Array Value := (c.map fun x => Value.int .i64 x).toArray
theorem crow_get {c : List Int} {j : Nat} {x : Int} (h : c[j]? = some x) : (crow c)[j]? = some (.int .i64 x) := by
  unfold crow
  rw [List.getElem?_toArray, List.getElem?_map, h]
  rfl
theorem crow_set (c : List Int) (j : Nat) (x : Int) : (crow c).setIfInBounds j (.int .i64 x) = crow (c.set j x) := by
  unfold crow
  rw [List.setIfInBounds_toArray, List.map_set]
def CubeBlk (W : World) (g : Nat) (c : List Int) : Prop := W.heap[g]? = some (.cells (crow c) 3 (0, 0))
def hdrs (k : Nat) (bs : List Nat) : List Value := bs.map fun g => .slice (some ⟨g, 0, none⟩) k k
theorem hdrs_get {k : Nat} {bs : List Nat} {i g : Nat} (h : bs[i]? = some g) : (hdrs k bs)[i]? = some (.slice (some ⟨g, 0, none⟩) k k) := by
  unfold hdrs
  rw [List.getElem?_map, h]
  rfl
/-- A row of cubes of the program's own, each in a block of its own. -/
structure CubesAt (z : Nat) (W : World) (k : Nat) (v : Value) (L : List (List Int)) (bs : List Nat) : Prop where
  own : W.ownsRow z 27 1 v bs.length (hdrs k bs)
  len : bs.length = L.length
  blk : ∀ (i g : Nat) (c : List Int), bs[i]? = some g → L[i]? = some c → CubeBlk W g c
  nd : bs.Nodup
  ge : ∀ g, g ∈ bs → z ≤ g
  ck : ∀ c, c ∈ L → c.length = k
def cubFp (v : Value) (bs : List Nat) : Nat → Prop := fun x => v.ownBlock = some x ∨ x ∈ bs
section
variable {z : Nat} {W W' : World} {k : Nat} {v : Value} {L : List (List Int)} {bs : List Nat}
theorem CubesAt.lt (h : CubesAt z W k v L bs) : ∀ x, cubFp v bs x → x < W.heap.size := by
  rintro x (hx | hx)
  · exact (h.own.lt x hx).2
  · obtain ⟨i, hi⟩ := List.getElem?_of_mem hx
    have hl : i < L.length := by rw [← h.len]; exact (List.getElem?_eq_some_iff.1 hi).1
    exact lt_of_heap (h.blk i x _ hi (List.getElem?_eq_getElem hl))
theorem CubesAt.from (h : CubesAt z W k v L bs) : ∀ x, cubFp v bs x → z ≤ x := by
  rintro x (hx | hx)
  · exact (h.own.lt x hx).1
  · exact h.ge x hx
theorem CubesAt.keeps (h : CubesAt z W k v L bs) {S : Nat → Prop} (hk : Keeps S W W') (hs : ∀ x, cubFp v bs x → ¬ S x) : CubesAt z W' k v L bs :=
  ⟨ownsRow_keeps' h.own hk (fun x hx => hs x (.inl hx)), h.len, fun i g c hg hc => (hk.block g (lt_of_heap (h.blk i g c hg hc)) (hs g (.inr (List.mem_of_getElem? hg)))).trans (h.blk i g c hg hc), h.nd, h.ge, h.ck⟩
theorem CubesAt.quiet (h : CubesAt z W k v L bs) (hk : Keeps (fun _ => False) W W') : CubesAt z W' k v L bs := h.keeps hk (fun _ _ x => x)
theorem CubesAt.mono {z' : Nat} (h : CubesAt z W k v L bs) (hz : z' ≤ z) : CubesAt z' W k v L bs := by
  refine ⟨?_, h.len, h.blk, h.nd, fun g hg => Nat.le_trans hz (h.ge g hg), h.ck⟩
  obtain ⟨h1, h2 | ⟨g, cap, cur, e, hg, r⟩⟩ := h.own
  · exact ⟨h1, .inl h2⟩
  · exact ⟨h1, .inr ⟨g, cap, cur, e, Nat.le_trans hz hg, r⟩⟩
theorem CubesAt.nil (z : Nat) (W : World) (k : Nat) : CubesAt z W k (.slice none 0 0) [] [] :=
  ⟨World.ownsRow_nil _ _ _ _, rfl, fun i g c hg => by simp at hg, List.nodup_nil, fun g hg => by simp at hg, fun c hc => by simp at hc⟩
/-- As a slice: its rows' headers. -/
theorem CubesAt.form (h : CubesAt z W k v L bs) : ∃ ao cap, v = .slice ao L.length cap ∧ L.length ≤ cap ∧ cap ≤ maxLen ∧ (0 < L.length → ∃ g, ao = some ⟨g, 0, none⟩ ∧ z ≤ g ∧ g < W.heap.size ∧ g ∉ bs ∧ ∀ (i b : Nat), bs[i]? = some b → W.cell? ⟨g, i, none⟩ = some (.slice (some ⟨b, 0, none⟩) k k)) := by
  obtain ⟨hl, ⟨rfl, h0⟩ | ⟨g, cap, cur, rfl, hg, hh, hle, hm, hs, ht⟩⟩ := h.own
  · have : L.length = 0 := by rw [← h.len]; exact h0
    exact ⟨none, 0, by rw [this], by omega, by unfold maxLen; omega, fun hp => by omega⟩
  · have hlen := h.len
    refine ⟨some ⟨g, 0, none⟩, cap, by rw [h.len], by omega, hm, fun _ => ⟨g, rfl, hg, lt_of_heap hh, fun hgb => ?_, fun i b hb => ?_⟩⟩
    · obtain ⟨i, hi⟩ := List.getElem?_of_mem hgb
      have hil : i < L.length := by rw [← h.len]; exact (List.getElem?_eq_some_iff.1 hi).1
      have := h.blk i g _ hi (List.getElem?_eq_getElem hil)
      unfold CubeBlk at this
      rw [hh] at this
      simp only [Option.some.injEq, Obj.cells.injEq] at this
      exact absurd this.2.1 (by decide)
    · have hib := (List.getElem?_eq_some_iff.1 hb).1
      have h2 : (cur.toList.take (bs.length * 1))[i]? = some (.slice (some ⟨b, 0, none⟩) k k) := by rw [ht]; exact hdrs_get hb
      rw [List.getElem?_take_of_lt (by omega), Array.getElem?_toList] at h2
      rw [cell_of_heap hh]
      exact h2
/-- One number of a cube anew. -/
theorem CubesAt.put (h : CubesAt z W k v L bs) {i b : Nat} {c : List Int} (hb : bs[i]? = some b) (hc : L[i]? = some c) (j : Nat) (x : Int) : CubesAt z (W.setCell ⟨b, j, none⟩ (.int .i64 x)) k v (L.set i (c.set j x)) bs := by
  have hk : Keeps (fun y => y = b) W (W.setCell ⟨b, j, none⟩ (.int .i64 x)) := Keeps.setCell (S := fun y => y = b) (Keeps.refl _ W) (p := ⟨b, j, none⟩) (fun _ => rfl) _
  have hil := (List.getElem?_eq_some_iff.1 hc).1
  have hbk := h.blk i b c hb hc
  refine ⟨ownsRow_keeps' h.own hk (fun y hy e => ?_), by rw [List.length_set]; exact h.len, fun i2 g c2 hg hc2 => ?_, h.nd, h.ge, fun c2 hc2 => ?_⟩
  · subst e
    obtain ⟨_, ⟨rfl, _⟩ | ⟨g, cap, cur, rfl, hg, hh, _⟩⟩ := h.own
    · cases hy
    · simp only [Value.ownBlock, Option.some.injEq] at hy
      subst hy
      unfold CubeBlk at hbk
      rw [hh] at hbk
      simp only [Option.some.injEq, Obj.cells.injEq] at hbk
      exact absurd hbk.2.1 (by decide)
  · by_cases e : i2 = i
    · subst e
      rw [hb] at hg
      simp only [Option.some.injEq] at hg
      subst hg
      rw [List.getElem?_set_self hil] at hc2
      simp only [Option.some.injEq] at hc2
      subst hc2
      unfold CubeBlk at hbk ⊢
      rw [heap_set hbk, crow_set]
    · rw [List.getElem?_set_ne (fun e2 => e e2.symm)] at hc2
      have hne : g ≠ b := fun e2 => by
        subst e2
        have h1 := (List.getElem?_eq_some_iff.1 hg)
        have h2 := (List.getElem?_eq_some_iff.1 hb)
        exact e ((List.getElem_inj h.nd).1 (h1.2.trans h2.2.symm))
      exact (hk.block g (lt_of_heap (h.blk i2 g c2 hg hc2)) hne).trans (h.blk i2 g c2 hg hc2)
  · rcases List.mem_or_eq_of_mem_set hc2 with e | e
    · exact h.ck c2 e
    · subst e
      rw [List.length_set]
      exact h.ck c (List.mem_of_getElem? hc)
end
/-- The node behind a number: its variable. -/
theorem varN_none {V : Int} {L : Nat → Nd} {n : Nat} {f : Int} (h : getN L n f = none) : varN V L n f = V := by
  unfold getN at h
  unfold varN
  split at h
  · cases h
  · rename_i hc; rw [if_neg hc]
theorem varN_some {V : Int} {L : Nat → Nd} {n : Nat} {f u lo hi : Int} (h : getN L n f = some (u, lo, hi)) : varN V L n f = u := by
  unfold getN at h
  unfold varN
  split at h
  · rename_i hc
    rw [if_pos hc]
    simp only [Option.some.injEq] at h
    rw [h]
  · cases h
theorem varN_le {V : Int} {L : Nat → Nd} {n : Nat} (g : NodePlain.Good V L n) {f : Int} (hf : isN n f = true) : varN V L n f ≤ V := by
  rcases Int.lt_or_le (varN V L n f) V with h | h
  · omega
  · rcases var_term g hf h with e | e <;> (rw [e, var_low (by omega)]; omega)
section
variable {W : World} {k d : Nat} {B : Int} {st : St} {calls : Int} {F : Nat → Prop}
set_option maxRecDepth 100000
set_option maxHeartbeats 1600000
theorem chalf_spec (h : Bd W d k B st calls F) (hn : st.n ≤ 100000000) {f : Int} {S : (Nat → Bool) → Bool} (hf : Num st f S) {v : Nat} (hv : (v : Int) ≤ varN (k : Int) st.L st.n f) (hvk : v < k) (hk8 : k ≤ 8) (so : Bool) :
    Calls Try.prog 55 #[.pointer (some ⟨d, 0, none⟩), .int .i64 f, .int .i64 v, .bool so] W fun e W' => ∃ r, e = .returned (.int .i64 r) ∧ Hid (Num st r (half S v so) ∧ Late (k : Int) st (k - v - 1) r) ∧ Hid (Keeps (fun _ => False) W W') := by
  have hfr := hf.range hn
  have HM := Lib.hid (bmade_spec h (by omega) f (by omega) (by omega))
  have HP : Hid (Num st (halfN st.L st.n f v so) (half S v so) ∧ Late (k : Int) st (k - v - 1) (halfN st.L st.n f v so)) := by
    obtain ⟨h1, h2, h3⟩ := half_ok h.good hf.is hv (by omega) (by omega) so
    refine ⟨⟨h1, fun β => ?_⟩, by unfold Late; omega⟩
    have e1 := ev_above h.good (v := (v : Int)) (so := so) h1 h2 β
    have e2 := h3 (putB β v so) (by rw [Int.toNat_natCast]; exact putB_eq β v so)
    rw [← e1, ← e2, hf.ev]
    rfl
  have hhn : halfN st.L st.n f v so = match getN st.L st.n f with
    | some nd => if nd.1 = (v : Int) then (if so then nd.2.2 else nd.2.1) else f
    | none => f := rfl
  rw [hhn] at HP
  generalize getN st.L st.n f = r at HM HP
  clear h hhn
  cases r with
  | none =>
    simp only [Option.getD_none, Option.isSome_none] at HM HP
    go_enter Try.func55, Try.ntmps55
    go_wp2_with fail
    refine HM.out.mono ?_
    rintro e w1 ⟨rfl, hb⟩
    have hk := Lib.hid ((Keeps.of_below (S := fun _ => False) hb (Nat.le_refl _)).alloc (.cells #[.int .i64 0, .int .i64 0, .int .i64 0] 103))
    clear hb HM
    go_wp2_with fail
    go_ret
    exact ⟨f, rfl, HP, hk⟩
  | some nd =>
    obtain ⟨u, lo, hi⟩ := nd
    simp only [Option.getD_some, Option.isSome_some] at HM HP
    go_enter Try.func55, Try.ntmps55
    go_wp2_with fail
    refine HM.out.mono ?_
    rintro e w1 ⟨rfl, hb⟩
    have hk := Lib.hid ((Keeps.of_below (S := fun _ => False) hb (Nat.le_refl _)).alloc (.cells #[.int .i64 u, .int .i64 lo, .int .i64 hi] 103))
    clear hb HM
    by_cases huv : u = (v : Int)
    · subst huv
      have hne : ((v : Int) != (v : Int)) = false := by simp
      rw [if_pos rfl] at HP
      cases so with
      | true =>
        go_wp2_with fail
        go_ret
        exact ⟨hi, rfl, HP, hk⟩
      | false =>
        go_wp2_with fail
        go_ret
        exact ⟨lo, rfl, HP, hk⟩
    · have hne : (u != (v : Int)) = true := by simp [huv]
      rw [if_neg huv] at HP
      go_wp2_with fail
      go_ret
      exact ⟨f, rfl, HP, hk⟩
end
end Go.Proofs.Ytloidoekmicloaa
/-
  Cubes: the first variable of two diagrams, a number put into each cube, what entails itself.
-/
set_option linter.unusedVariables false
set_option linter.unusedSimpArgs false
set_option linter.unnecessarySimpa false
namespace Go.Proofs.Ytloidoekmicloaa
open Go.ChangeShapes Go.WideShapes Go.ChangeAt Go.RowKit Go.Deep NodePlain
section
variable {z : Nat} {W W' : World} {k d : Nat} {B : Int} {st : St} {calls : Int} {F : Nat → Prop}
set_option maxRecDepth 100000
set_option maxHeartbeats 1600000
/-- The least variable of the first so many. -/
def mnTo (V : Int) (vs : Nat → Int) : Nat → Int
  | 0 => V
  | j + 1 => min (mnTo V vs j) (vs j)
theorem cfirst_spec (h : Bd W d k B st calls F) (hn : st.n ≤ 100000000) (hk8 : k ≤ 8) {x y : Int} (hx : isN st.n x = true) (hy : isN st.n y = true) {g : Nat} (hg : W.heap[g]? = some (.cells #[.int .i64 x, .int .i64 y] 3 (0, 0))) :
    Calls Try.prog 54 #[.pointer (some ⟨d, 0, none⟩), .slice (some ⟨g, 0, none⟩) 2 2] W fun e W' => e = .returned (.int .i64 (min (varN (k : Int) st.L st.n x) (varN (k : Int) st.L st.n y))) ∧ Hid (Keeps (fun _ => False) W W') := by
  have rx := isN_iff.1 hx
  have ry := isN_iff.1 hy
  have lx := varN_le h.good hx
  have ly := varN_le h.good hy
  obtain ⟨fs, hfs⟩ : ∃ fs : Nat → Int, fs = fun j => if j = 0 then x else y := ⟨_, rfl⟩
  obtain ⟨m, hm⟩ : ∃ m, min (varN (k : Int) st.L st.n x) (varN (k : Int) st.L st.n y) = m := ⟨_, rfl⟩
  have HE : Hid (m = mnTo k (fun j => varN (k : Int) st.L st.n (fs j)) 2) := by
    show m = min (min (k : Int) (varN (k : Int) st.L st.n (fs 0))) (varN (k : Int) st.L st.n (fs 1))
    rw [hfs, ← hm]
    simp only [if_true]
    rw [if_neg (by decide)]
    omega
  have HV := Lib.hid (bvars_spec h)
  have HC : Hid (∀ W1, Keeps (fun _ => False) W W1 → ∀ j, j < 2 → W1.cell? ⟨g, j, none⟩ = some (.int .i64 (fs j)) ∧ Calls Try.prog 73 #[.pointer (some ⟨d, 0, none⟩), .int .i64 (fs j)] W1 fun e W' => e = .returned (.tuple #[.agg #[.int .i64 ((getN st.L st.n (fs j)).getD (0, 0, 0)).1, .int .i64 ((getN st.L st.n (fs j)).getD (0, 0, 0)).2.1, .int .i64 ((getN st.L st.n (fs j)).getD (0, 0, 0)).2.2], .bool (getN st.L st.n (fs j)).isSome]) ∧ Below W1.heap.size W1 W') := fun W1 hk j hj => by
    have hg1 := (hk.block g (lt_of_heap hg) (fun x => x)).trans hg
    refine ⟨?_, bmade_spec (h.quiet hk) (by omega) (fs j) ?_ ?_⟩
    · rw [cell_of_heap hg1, hfs]
      match j, hj with
      | 0, _ => rfl
      | 1, _ => rfl
    · rw [hfs]; simp only; split <;> omega
    · rw [hfs]; simp only; split <;> omega
  have HL : Hid (∀ j, j < 2 → varN (k : Int) st.L st.n (fs j) ≤ k ∧ 0 ≤ varN (k : Int) st.L st.n (fs j)) := fun j _ => by
    have p1 := var_pos (V := (k : Int)) (by omega) h.good x
    have p2 := var_pos (V := (k : Int)) (by omega) h.good y
    rw [hfs]; simp only; split
    · exact ⟨lx, p1⟩
    · exact ⟨ly, p2⟩
  have HGS := lt_of_heap hg
  rw [hm]
  clear h hg hfs hm hx hy rx ry lx ly
  go_enter Try.func54, Try.ntmps54
  go_wp2_with fail
  refine HV.out.mono ?_
  rintro e w1 ⟨rfl, rfl⟩
  clear HV
  have HK0 : Hid (Keeps (fun _ => False) W W) := Keeps.refl _ _
  go_wp2_with fail
  go_loopg [5, 14] 2 (fun gh s5 t wy => ∃ (j : Nat) (mj : Int), j ≤ 2 ∧ gh = 2 - j ∧ t = .int .i64 j ∧ s5 = .int .i64 mj ∧ Hid (mj = mnTo k (fun j => varN (k : Int) st.L st.n (fs j)) j) ∧ Hid (Keeps (fun _ => False) W wy))
  case atStart => exact ⟨0, k, by omega, rfl, rfl, rfl, rfl, HK0.out⟩
  case round =>
    clear HK0
    obtain ⟨j, mj, hj, rfl, rfl, rfl, hmj, hk⟩ := hrel
    by_cases hlt : j < 2
    · have hjI : (j : Int) < 2 := by omega
      have hwj : IntKind.i64.wrap ((j : Int) + 1) = (j : Int) + 1 := IntWalk.i64_in _ (by omega)
      obtain ⟨cj, hmd⟩ := HC.out wr hk.out j hlt
      have HMD := Lib.hid hmd
      have hgw : g < wr.heap.size := Nat.lt_of_lt_of_le HGS hk.out.size
      have HST : Hid (∀ m2, m2 = min mj (varN (k : Int) st.L st.n (fs j)) → m2 = mnTo k (fun j => varN (k : Int) st.L st.n (fs j)) (j + 1)) := fun m2 h2 => by
        show m2 = min (mnTo k (fun j => varN (k : Int) st.L st.n (fs j)) j) (varN (k : Int) st.L st.n (fs j))
        rw [← hmj.out]; exact h2
      have HLJ := Lib.hid (HL.out j hlt)
      have HMJ : Hid (mj ≤ k) := by
        have := hmj.out
        show mj ≤ _
        rw [this]
        match j with
        | 0 => exact Int.le_refl _
        | 1 => show min _ _ ≤ _; exact Int.min_le_left _ _
        | j + 2 => omega
      generalize hfj : fs j = f at cj HMD HST HLJ
      clear hfj hmd hmj
      cases hgn : getN st.L st.n f with
      | none =>
        rw [hgn] at HMD
        simp only [Option.getD_none, Option.isSome_none] at HMD
        have hvn := varN_none (V := (k : Int)) hgn
        rw [hvn] at HST
        have HS2 : Hid (mj = mnTo k (fun j => varN (k : Int) st.L st.n (fs j)) (j + 1)) := HST.out mj (by have := HMJ.out; omega)
        clear HST HLJ HMJ hgn hvn
        go_wp2_with fail
        refine HMD.out.mono ?_
        rintro e w2 ⟨rfl, hb⟩
        have hk2 := Lib.hid (hk.out.trans ((Keeps.of_below (S := fun _ => False) hb (Nat.le_refl _)).alloc (.cells #[.int .i64 0, .int .i64 0, .int .i64 0] 103)))
        clear hb HMD hk
        go_wp2_with fail
        go_roundg (2 - (j + 1))
        case measure => omega
        case rel => exact ⟨j + 1, mj, by omega, rfl, by go_num, rfl, HS2, hk2⟩
      | some nd =>
        obtain ⟨u, lo, hi⟩ := nd
        rw [hgn] at HMD
        simp only [Option.getD_some, Option.isSome_some] at HMD
        have hvn := varN_some (V := (k : Int)) hgn
        rw [hvn] at HST
        have HS2 : Hid (∀ m2, m2 = min mj u → m2 = mnTo k (fun j => varN (k : Int) st.L st.n (fs j)) (j + 1)) := HST
        clear HST HLJ HMJ hgn hvn
        go_wp2_with fail
        refine HMD.out.mono ?_
        rintro e w2 ⟨rfl, hb⟩
        have hk2 := Lib.hid (hk.out.trans ((Keeps.of_below (S := fun _ => False) hb (Nat.le_refl _)).alloc (.cells #[.int .i64 u, .int .i64 lo, .int .i64 hi] 103)))
        clear hb HMD hk
        by_cases hle : mj ≤ u
        · have HS3 : Hid (mj = mnTo k (fun j => varN (k : Int) st.L st.n (fs j)) (j + 1)) := HS2.out mj (by omega)
          have hmin : min mj u = mj := by omega
          clear HS2
          go_wp2_with fail
          go_roundg (2 - (j + 1))
          case measure => omega
          case rel => exact ⟨j + 1, mj, by omega, rfl, by go_num, by first | rfl | rw [hmin], HS3, hk2⟩
        · have HS3 : Hid (u = mnTo k (fun j => varN (k : Int) st.L st.n (fs j)) (j + 1)) := HS2.out u (by omega)
          have hmin : min mj u = u := by omega
          clear HS2
          go_wp2_with fail
          go_roundg (2 - (j + 1))
          case measure => omega
          case rel => exact ⟨j + 1, u, by omega, rfl, by go_num, by first | rfl | rw [hmin], HS3, hk2⟩
    · have hj2 : j = 2 := by omega
      have hjI : ¬ (j : Int) < 2 := by omega
      have hmm : mj = m := by rw [hmj.out, HE.out, hj2]
      subst hmm
      clear hmj HE
      go_wp2_with fail
      go_ret
      exact ⟨rfl, hk⟩
/-- A number put into each cube, at a place. -/
def withTo (L : List (List Int)) (v : Nat) (so : Int) (j : Nat) : List (List Int) := (L.take j).map (fun c => c.set v so) ++ L.drop j
theorem with_next {L : List (List Int)} {v : Nat} {so : Int} {j : Nat} {c : List Int} (hc : L[j]? = some c) : (withTo L v so j).set j (c.set v so) = withTo L v so (j + 1) ∧ (withTo L v so j)[j]? = some c := by
  have hl := (List.getElem?_eq_some_iff.1 hc).1
  have hlen : ((L.take j).map (fun c => c.set v so)).length = j := by rw [List.length_map, List.length_take]; omega
  have hd : L.drop j = c :: L.drop (j + 1) := by
    rw [List.drop_eq_getElem_cons hl]
    congr 1
    rw [List.getElem?_eq_getElem hl] at hc
    exact Option.some.inj hc
  unfold withTo
  constructor
  · rw [List.set_append_right _ _ (by omega), hlen, Nat.sub_self, hd, List.set_cons_zero, List.take_add_one, hc, List.map_append]
    simp
  · rw [List.getElem?_append_right (by omega), hlen, Nat.sub_self, hd, List.getElem?_cons_zero]
theorem cwith_spec {v : Value} {L : List (List Int)} {bs : List Nat} (h : CubesAt z W k v L bs) (hL : L.length ≤ 100000) {q : Nat} (hq : q < k) (hk8 : k ≤ 8) (so : Int) :
    Calls Try.prog 57 #[v, .int .i64 q, .int .i64 so] W fun e W' => e = .returned v ∧ Hid (CubesAt z W' k v (L.map fun c => c.set q so) bs ∧ Keeps (fun x => x ∈ bs) W W') := by
  obtain ⟨ao, cap, rfl, hle, hmx, hcell⟩ := h.form
  obtain ⟨n, hnl⟩ : ∃ n, L.length = n := ⟨_, rfl⟩
  have HN := Lib.hid hnl
  have HBL : Hid (bs.length = n) := by rw [h.len]; exact hnl
  have HND := Lib.hid h.nd
  have HST : Hid (CubesAt z W k (.slice ao n cap) (withTo L q so 0) bs ∧ Keeps (fun x => x ∈ bs) W W) := by
    refine ⟨?_, Keeps.refl _ _⟩
    unfold withTo
    rw [← hnl]
    simpa using h
  have HLK := Lib.hid h.ck
  rw [hnl] at hle hL ⊢
  clear h hnl hcell
  go_enter Try.func57, Try.ntmps57
  go_wp2_with fail
  go_loopg [11] n (fun gh t wy => ∃ j : Nat, j ≤ n ∧ gh = n - j ∧ t = .int .i64 j ∧ Hid (CubesAt z wy k (.slice ao n cap) (withTo L q so j) bs ∧ Keeps (fun x => x ∈ bs) W wy))
  case atStart => exact ⟨0, Nat.zero_le _, rfl, rfl, HST.out⟩
  case round =>
    clear HST
    obtain ⟨j, hj, rfl, rfl, HI⟩ := hrel
    by_cases hlt : j < n
    · have hjI : (j : Int) < (n : Int) := by omega
      have hqI : (q : Int) < (k : Int) := by omega
      have hwj : IntKind.i64.wrap ((j : Int) + 1) = (j : Int) + 1 := IntWalk.i64_in _ (by omega)
      obtain ⟨c, hc⟩ : ∃ c, L[j]? = some c := ⟨_, List.getElem?_eq_getElem (by rw [HN.out]; exact hlt)⟩
      obtain ⟨b, hb⟩ : ∃ b, bs[j]? = some b := ⟨_, List.getElem?_eq_getElem (by rw [HBL.out]; exact hlt)⟩
      obtain ⟨hn1, hn2⟩ := with_next (v := q) (so := so) hc
      have hput := HI.out.1.put hb hn2 q so
      rw [hn1] at hput
      have hlw : 0 < (withTo L q so j).length := by rw [← HI.out.1.len, HBL.out]; omega
      obtain ⟨ao', cap', he, _, _, hcl⟩ := HI.out.1.form
      simp only [Value.slice.injEq] at he
      obtain ⟨rfl, -, rfl⟩ := he
      obtain ⟨gh, rfl, _, hgh, _, hrow⟩ := hcl hlw
      have c1 := hrow j b hb
      have hbk := HI.out.1.blk j b c hb hn2
      obtain ⟨y, hy⟩ : ∃ y, c[q]? = some y := ⟨_, List.getElem?_eq_getElem (by rw [HLK.out c (List.mem_of_getElem? hc)]; exact hq)⟩
      have c2 : wr.cell? ⟨b, q, none⟩ = some (.int .i64 y) := by rw [cell_of_heap hbk]; exact crow_get hy
      have f2 := free_of_heap hbk q
      have hbl := lt_of_heap hbk
      have HNX : Hid (CubesAt z (wr.setCell ⟨b, q, none⟩ (.int .i64 so)) k (.slice (some ⟨gh, 0, none⟩) n cap) (withTo L q so (j + 1)) bs ∧ Keeps (fun x => x ∈ bs) W (wr.setCell ⟨b, q, none⟩ (.int .i64 so))) :=
        ⟨hput, HI.out.2.trans (Keeps.setCell (S := fun x => x ∈ bs) (Keeps.refl _ wr) (p := ⟨b, q, none⟩) (fun _ => List.mem_of_getElem? hb) _)⟩
      clear HI hput hcl hrow hbk hn1 hn2 hy hc hb
      go_wp2_with fail
      go_roundg (n - (j + 1))
      case measure => omega
      case rel => exact ⟨j + 1, by omega, rfl, by go_num, HNX⟩
    · have hjn : j = n := by omega
      have hjI : ¬ (j : Int) < (n : Int) := by omega
      have HF : Hid (CubesAt z wr k (.slice ao n cap) (L.map fun c => c.set q so) bs ∧ Keeps (fun x => x ∈ bs) W wr) := by
        have := HI.out
        unfold withTo at this
        rw [hjn, ← HN.out, List.take_length, List.drop_length, List.append_nil, HN.out] at this
        exact this
      clear HI
      go_wp2_with fail
      go_ret
      exact ⟨rfl, HF⟩
/-- What is: entails itself. -/
theorem never_spec (h : Bd W d k B st calls F) (hn : st.n ≤ 100000000) {f : Int} (hf : isN st.n f = true) :
    Calls Try.prog 59 #[.pointer (some ⟨d, 0, none⟩), .int .i64 f] W fun e W' => e = .returned (.bool (decide (f = 0))) ∧ W = W' := by
  have hr := isN_iff.1 hf
  have HI := Lib.hid (bis_spec h (by omega) f (by omega))
  rw [hf] at HI
  clear h
  by_cases h0 : f = 0
  · subst h0
    go_enter Try.func59, Try.ntmps59
    go_wp2_with fail
    go_ret
    exact ⟨rfl, rfl⟩
  · have h0b : (f == 0) = false := by simp [h0]
    rw [decide_eq_false h0]
    go_enter Try.func59, Try.ntmps59
    go_wp2_with fail
    refine HI.out.mono ?_
    rintro e w1 ⟨rfl, rfl⟩
    go_wp2_with fail
    go_ret
    exact ⟨rfl, rfl⟩
end
end Go.Proofs.Ytloidoekmicloaa
/-
  slices.Concat of three rows of rows: one behind the other, in a row of its own.
-/
set_option linter.unusedVariables false
set_option linter.unusedSimpArgs false
set_option linter.unnecessarySimpa false
namespace Go.Proofs.Ytloidoekmicloaa
open Go.ChangeShapes Go.WideShapes Go.ChangeAt Go.RowKit Go.Deep NodePlain
theorem rowInfo : (Try.prog.info? 27).map (fun i => (i.zero, i.size, i.bytes)) = some (some (.slice none 0 0), 1, 24) := by kernel_rfl
/-- A slice of single values, as it is read. -/
def ReadsV (W : World) (u : Value) (H : List Value) : Prop :=
  (u = .slice none 0 0 ∧ H = []) ∨ ∃ g cap, u = .slice (some ⟨g, 0, none⟩) H.length cap ∧ H.length ≤ cap ∧ g < W.heap.size ∧ (∀ j h, H[j]? = some h → W.cell? ⟨g, j, none⟩ = some h) ∧ ∀ h, h ∈ H → h.oneCell' = true
theorem ReadsV.keeps {W W' : World} {u : Value} {H : List Value} (h : ReadsV W u H) (hk : Keeps (fun _ => False) W W') : ReadsV W' u H := by
  rcases h with h | ⟨g, cap, h1, h2, h3, h4, h5⟩
  · exact .inl h
  · exact .inr ⟨g, cap, h1, h2, Nat.lt_of_lt_of_le h3 hk.size, fun j h hj => (hk.cell (p := ⟨g, j, none⟩) h3 (fun x => x)).trans (h4 j h hj), h5⟩
theorem CubesAt.readsV {z : Nat} {W : World} {k : Nat} {v : Value} {L : List (List Int)} {bs : List Nat} (h : CubesAt z W k v L bs) : ReadsV W v (hdrs k bs) := by
  have hlen : (hdrs k bs).length = bs.length := by unfold hdrs; simp
  obtain ⟨hl, ⟨rfl, h0⟩ | ⟨g, cap, cur, rfl, hg, hh, hle, hm, hs, ht⟩⟩ := h.own
  · obtain rfl : bs = [] := List.eq_nil_of_length_eq_zero h0
    exact .inl ⟨rfl, rfl⟩
  · refine .inr ⟨g, cap, by rw [hlen], by rw [hlen]; exact hle, lt_of_heap hh, fun j u hj => ?_, fun u hu => ?_⟩
    · have hjl : j < bs.length := by rw [← hlen]; exact (List.getElem?_eq_some_iff.1 hj).1
      rw [← ht, List.getElem?_take_of_lt (by omega), Array.getElem?_toList] at hj
      rw [cell_of_heap hh]
      exact hj
    · unfold hdrs at hu
      obtain ⟨b, _, rfl⟩ := List.mem_map.1 hu
      rfl
section
set_option maxRecDepth 100000
set_option maxHeartbeats 1600000
theorem growz_spec (W : World) {n : Nat} (hn : n ≤ 1000000) :
    Calls Try.prog 74 #[.slice none 0 0, .int .i64 n] W fun e W' => ∃ v, e = .returned v ∧ Hid (W'.ownsRow W.heap.size 27 1 v 0 [] ∧ Keeps (fun _ => False) W W') := by
  rcases Nat.eq_zero_or_pos n with h0 | h0
  · subst h0
    have HP : Hid (W.ownsRow W.heap.size 27 1 (.slice none 0 0) 0 [] ∧ Keeps (fun _ => False) W W) := ⟨World.ownsRow_nil _ _ _ _, Keeps.refl _ _⟩
    go_enter Try.func74, Try.ntmps74
    go_wp2_with fail
    go_ret
    exact ⟨_, rfl, HP⟩
  · obtain ⟨i0, hi0, hz0, hz1, hz2⟩ := info_parts rowInfo
    obtain ⟨G, hG⟩ : ∃ G, grownCap W n 0 27 = G := ⟨_, rfl⟩
    have hGn : n ≤ G := by rw [← hG]; exact grownCap_ge W _ _ _
    have hGm : G ≤ maxLen := by rw [← hG]; exact grownCap_le_maxLen W n 0 _ (by unfold maxLen; omega)
    have hrz : ∀ ty, (Builtin.append_ #[31, 3] ty #[.slice none 0 0, .int .i64 (n : Int)]).run Try.prog W = .ok (.slice (some ⟨W.heap.size, 0, none⟩) n G) (W.drew.alloc (.cells (Builtin.zeroCells #[Value.slice none 0 0] n ++ Builtin.zeroCells #[Value.slice none 0 0] (G - n)) 27)) := fun ty => by
      have h := Lib.run_append_grow_zeros W 31 3 ty 27 i0 (.slice none 0 0) .i64 .i64 Try.underlying31 Try.underlying3 hi0 hz0 none 0 0 [] (run_firstCells_none W.drew i0.size 0 0 0) n h0 (by omega) (by omega) (by omega) (by rw [hz2]; omega)
        (by have := growslice_fits (need := 0 + n) (old := 0) (bytes := i0.bytes) (by omega) (by rw [hz2]; omega); exact this)
      simp only [Nat.zero_add] at h
      rw [hG] at h
      rw [h, Array.empty_append]
      rfl
    have hsz : ∀ m : Nat, (Builtin.zeroCells #[Value.slice none 0 0] m).size = m := fun m => by simp [Builtin.zeroCells]
    have HP : Hid ((W.drew.alloc (.cells (Builtin.zeroCells #[Value.slice none 0 0] n ++ Builtin.zeroCells #[Value.slice none 0 0] (G - n)) 27)).ownsRow W.heap.size 27 1 (.slice (some ⟨W.heap.size, 0, none⟩) 0 G) 0 [] ∧ Keeps (fun _ => False) W (W.drew.alloc (.cells (Builtin.zeroCells #[Value.slice none 0 0] n ++ Builtin.zeroCells #[Value.slice none 0 0] (G - n)) 27))) :=
      ⟨World.ownsRow_made W.drew _ G (Nat.le_refl _) hGm (by rw [Array.size_append, hsz, hsz]; omega), ((Keeps.refl _ _).drew).alloc _⟩
    have hG0 : (0 : Int) ≤ (G : Int) := by omega
    have hnpos : ¬ (n : Int) < 0 := by omega
    have hn2 : (n : Int) > 0 := by omega
    have hw : IntKind.i64.wrap (n : Int) = (n : Int) := IntWalk.i64_in _ (by omega)
    clear hi0 hz0 hz1 hz2 hG hGm hsz
    generalize (W.drew.alloc (.cells (Builtin.zeroCells #[Value.slice none 0 0] n ++ Builtin.zeroCells #[Value.slice none 0 0] (G - n)) 27)) = W2 at hrz HP
    go_enter Try.func74, Try.ntmps74
    go_wp2_with (at_builtin; refine Lib.wpList_append_run _ rfl _ _ _ _ rfl _ _ rfl rfl _ _ (hrz _) ?_)
    all_goals
      go_ret
      exact ⟨_, rfl, HP⟩
def sumL (Hs : Nat → List Value) : Nat → Nat
  | 0 => 0
  | j + 1 => sumL Hs j + (Hs j).length
def catL (Hs : Nat → List Value) : Nat → List Value
  | 0 => []
  | j + 1 => catL Hs j ++ Hs j
theorem catL_len (Hs : Nat → List Value) : ∀ j, (catL Hs j).length = sumL Hs j
  | 0 => rfl
  | j + 1 => by
    unfold catL sumL
    rw [List.length_append, catL_len Hs j]
theorem sumL_le {Hs : Nat → List Value} {b : Nat} (h : ∀ j, (Hs j).length ≤ b) : ∀ j, sumL Hs j ≤ j * b
  | 0 => Nat.zero_le _
  | j + 1 => by
    unfold sumL
    have := sumL_le h j
    have := h j
    rw [Nat.succ_mul]
    omega
theorem concat_spec {W : World} {ga : Nat} {us : Nat → Value} {Hs : Nat → List Value} (hga : ga < W.heap.size) (hc : ∀ j, j < 3 → W.cell? ⟨ga, j, none⟩ = some (us j)) (hr : ∀ j, j < 3 → ReadsV W (us j) (Hs j)) (hb : ∀ j, (Hs j).length ≤ 10000) :
    Calls Try.prog 56 #[.slice (some ⟨ga, 0, none⟩) 3 3] W fun e W' => ∃ v, e = .returned v ∧ Hid (W'.ownsRow W.heap.size 27 1 v (sumL Hs 3) (catL Hs 3) ∧ Keeps (fun _ => False) W W') := by
  have HC := Lib.hid hc
  have HR := Lib.hid hr
  have HB := Lib.hid hb
  have hs3 := sumL_le hb 3
  have HSL := Lib.hid (sumL_le hb)
  obtain ⟨i0, hi0, hz0, hz1, hz2⟩ := info_parts rowInfo
  clear hc hr hb
  go_enter Try.func56, Try.ntmps56
  go_wp2_with fail
  go_loopg [3, 11] 3 (fun gh s3 t wy => ∃ (j q : Nat), j ≤ 3 ∧ gh = 3 - j ∧ t = .int .i64 j ∧ s3 = .int .i64 q ∧ Hid (q = sumL Hs j) ∧ W = wy)
  case atStart => exact ⟨0, 0, by omega, rfl, rfl, rfl, rfl, rfl⟩
  case round =>
    obtain ⟨j, q, hj, rfl, rfl, rfl, hq, rfl⟩ := hrel
    by_cases hlt : j < 3
    · have hjI : (j : Int) < 3 := by omega
      have hwj : IntKind.i64.wrap ((j : Int) + 1) = (j : Int) + 1 := IntWalk.i64_in _ (by omega)
      have c1 := HC.out j hlt
      have hrj := HR.out j hlt
      have hbj := HB.out j
      have hq3 : q ≤ 30000 := by
        have := HSL.out j
        rw [hq.out]; omega
      obtain ⟨ao, cap, hu, hcap⟩ : ∃ ao cap, us j = .slice ao (Hs j).length cap ∧ True := by
        rcases hrj with ⟨h1, h2⟩ | ⟨g, cap, h1, _⟩
        · exact ⟨none, 0, by rw [h1, h2]; rfl, trivial⟩
        · exact ⟨_, cap, h1, trivial⟩
      rw [hu] at c1
      obtain ⟨m, hm⟩ : ∃ m, (Hs j).length = m := ⟨_, rfl⟩
      have HQ : Hid (q + m = sumL Hs (j + 1)) := by
        show q + m = sumL Hs j + (Hs j).length
        rw [hq.out, hm]
      rw [hm] at c1 hbj
      have hwq : IntKind.i64.wrap ((q : Int) + (m : Int)) = ((q + m : Nat) : Int) := (IntWalk.i64_in _ (by omega)).trans (by omega)
      have hnn : ¬ ((q + m : Nat) : Int) < 0 := by omega
      clear hq hrj hm hu
      obtain ⟨q2, hq2⟩ : ∃ q2, q + m = q2 := ⟨_, rfl⟩
      rw [hq2] at HQ hwq hnn
      go_wp2_with fail
      go_roundg (3 - (j + 1))
      case measure => omega
      case rel => exact ⟨j + 1, q2, by omega, rfl, by go_num, rfl, HQ, rfl⟩
    · have hj3 : j = 3 := by omega
      have hjI : ¬ (j : Int) < 3 := by omega
      have HG := Lib.hid (growz_spec W (n := q) (by rw [hq.out, hj3]; omega))
      clear hq
      go_wp2_with fail
      refine HG.out.mono ?_
      rintro e w2 ⟨v2, rfl, hv2⟩
      clear HG
      go_wp2_with fail
      go_loopg [6, 27] 3 (fun gh s6 t wy => ∃ (i : Nat) (v : Value), i ≤ 3 ∧ gh = 3 - i ∧ t = .int .i64 i ∧ v = s6 ∧ Hid (wy.ownsRow W.heap.size 27 1 v (sumL Hs i) (catL Hs i) ∧ Keeps (fun _ => False) W wy))
      case atStart => exact ⟨0, v2, by omega, rfl, rfl, rfl, hv2.out⟩
      case round =>
        clear hv2
        obtain ⟨i, v, hi, rfl, rfl, rfl, HI⟩ := hrel
        by_cases hlt2 : i < 3
        · have hiI : (i : Int) < 3 := by omega
          have hwi : IntKind.i64.wrap ((i : Int) + 1) = (i : Int) + 1 := IntWalk.i64_in _ (by omega)
          have c1 := (HI.out.2.cell (p := ⟨ga, i, none⟩) hga (fun x => x)).trans (HC.out i hlt2)
          have hri := (HR.out i hlt2).keeps HI.out.2
          have hbi := HB.out i
          have hsi := HSL.out i
          have hgw : ga < wr.heap.size := Nat.lt_of_lt_of_le hga HI.out.2.size
          have hzw : W.heap.size ≤ wr.heap.size := HI.out.2.size
          rcases hri with ⟨h1, h2⟩ | ⟨g, cap, h1, h2, h3, h4, h5⟩
          · rw [h1] at c1
            have HN : Hid (wr.ownsRow W.heap.size 27 1 v (sumL Hs (i + 1)) (catL Hs (i + 1)) ∧ Keeps (fun _ => False) W wr) := by
              have e1 : sumL Hs (i + 1) = sumL Hs i := by show sumL Hs i + (Hs i).length = _; rw [h2]; rfl
              have e2 : catL Hs (i + 1) = catL Hs i := by show catL Hs i ++ Hs i = _; rw [h2, List.append_nil]
              rw [e1, e2]
              exact HI.out
            obtain ⟨ao0, cap0, hv0, _⟩ := own_form HI.out.1
            have HOW : Hid (wr.ownsRow W.heap.size 27 1 v (sumL Hs i) (catL Hs i)) := HI.out.1
            clear HI h1 h2 hv0
            go_wp2_with (at_builtin; refine wpList_append_own_none rfl _ _ 31 rfl W.heap.size 27 i0 1 Try.underlying31 hi0 v _ _ rfl HOW.out rfl ?_)
            go_roundg (3 - (i + 1))
            case measure => omega
            case rel => exact ⟨i + 1, v, by omega, rfl, by go_num, rfl, HN⟩
          · rw [h1] at c1
            have HOW : Hid (wr.ownsRow W.heap.size 27 1 v (sumL Hs i) (catL Hs i)) := HI.out.1
            have HKP : Hid (Keeps (fun _ => False) W wr) := HI.out.2
            have HNW : Hid (∀ j u, (Hs i)[j]? = some u → wr.cell? ((⟨g, 0, none⟩ : Addr).add j) = some u) := fun j u hu => by
              rw [Addr.add_lit, Nat.zero_add]
              exact h4 j u hu
            have HON := Lib.hid h5
            have HCL := Lib.hid (catL_len Hs i)
            clear HI h1 h2 h4 h5
            go_wp2_with (at_builtin; refine wpList_append_own _ rfl _ _ 31 rfl W.heap.size 27 i0 _ 1 24 Try.underlying31 hi0 hz0 hz1 hz2 rfl (by decide) v _ _ rfl HOW.out ⟨g, 0, none⟩ (Hs i).length cap (Hs i) rfl (by omega) HNW.out HON.out (by unfold maxLen; omega) (by omega) hzw ?_)
            intro v3 w6 hown3 hgrow _
            have HN : Hid (w6.ownsRow W.heap.size 27 1 v3 (sumL Hs (i + 1)) (catL Hs (i + 1)) ∧ Keeps (fun _ => False) W w6) :=
              ⟨hown3, HKP.out.trans_new (keeps_grown hgrow) (fun x hx e => by have := (HOW.out.lt x e).1; omega)⟩
            clear HOW HKP HNW HON hown3 hgrow
            go_wp2_with fail
            go_roundg (3 - (i + 1))
            case measure => omega
            case rel => exact ⟨i + 1, v3, by omega, rfl, by go_num, rfl, HN⟩
        · have hi3 : i = 3 := by omega
          have hiI : ¬ (i : Int) < 3 := by omega
          subst hi3
          go_wp2_with fail
          go_ret
          exact ⟨_, rfl, HI⟩
end
end Go.Proofs.Ytloidoekmicloaa
