/-
  The document's rows: a variable so, some and all of variables, what a row changes with. No program in sight.
-/
import Derived.Test.YtfakjhcpaiaekaaSatPathPlain
import Derived.Test.YtfakjhcpaiaekaaQuantEach
import Derived.Test.YtfakjhcpaiaekaaQuantSuppPlain
import Derived.Test.YtfakjhcpaiaekaaSatChoice
import Derived.Test.YtfakjhcpaiaekaaOrdRows
import Derived.Test.YtfakjhcpaiaekaaMA
import Derived.Deep.RegionWith
import Derived.Deep.RegionHeld3
set_option linter.unusedVariables false
set_option linter.unusedSimpArgs false
set_option linter.unnecessarySimpa false
namespace Go.Proofs.Ytfakjhcpaiaekaa
open Go.ChangeShapes Go.WideShapes Go.ChangeAt Go.RowKit Go.Deep NodePlain SatPlain
/-- A row tells of a function. -/
def RowOf (k : Nat) (E : (Nat → Bool) → Bool) (R : Nat → Bool) : Prop := ∀ b, b < 2 ^ k → E (Nat.testBit b) = R b
/-- A function hangs on the variables before one alone. -/
def Deps (k : Nat) (E : (Nat → Bool) → Bool) : Prop := ∀ b1 b2 : Nat → Bool, (∀ x : Nat, x < k → b1 x = b2 x) → E b1 = E b2
theorem deps_ev {k : Nat} {L : Nat → Nd} {n : Nat} (g : NodePlain.Good (k : Int) L n) {f : Int} (hf : isN n f = true) : Deps k (fun β => NodePlain.ev L β f) := fun b1 b2 h => by
  have hfI := isN_iff.1 hf
  exact ev_below g (fun x hx => h x (by omega)) (f.toNat + 1) f (by omega) (by omega)
theorem Deps.put {k : Nat} {E : (Nat → Bool) → Bool} (h : Deps k E) (v : Int) (so : Bool) : Deps k (fun β => E (putB β v so)) := fun b1 b2 hb => h _ _ (fun x hx => by
  unfold putB
  split
  · rfl
  · exact hb x hx)
theorem Deps.each {k : Nat} {E : (Nat → Bool) → Bool} (h : Deps k E) (or : Bool) (v : Int) : Deps k (eachOne or E v) := fun b1 b2 hb => by
  unfold eachOne
  have e1 : E (putB b1 v false) = E (putB b2 v false) := h.put v false b1 b2 hb
  have e2 : E (putB b1 v true) = E (putB b2 v true) := h.put v true b1 b2 hb
  rw [e1, e2]
/-- A row with a variable so. -/
def rowP (k : Nat) (v : Int) (so : Bool) (R : Nat → Bool) : Nat → Bool := if 0 ≤ v ∧ v < (k : Int) then fun b => R (putN b v.toNat so) else R
theorem rowP_in {k v : Nat} (hv : v < k) (so : Bool) (R : Nat → Bool) : rowP k (v : Int) so R = fun b => R (putN b v so) := by
  unfold rowP
  rw [if_pos ⟨by omega, by omega⟩]
  rfl
theorem rowP_out {k : Nat} {v : Int} (hv : v < 0 ∨ (k : Int) ≤ v) (so : Bool) (R : Nat → Bool) : rowP k v so R = R := by
  unfold rowP
  rw [if_neg (by omega)]
theorem rowP_of {k : Nat} {E : (Nat → Bool) → Bool} {R : Nat → Bool} (hd : Deps k E) (h : RowOf k E R) (v : Int) (so : Bool) : RowOf k (fun β => E (putB β v so)) (rowP k v so R) := fun b hb => by
  by_cases hv : 0 ≤ v ∧ v < (k : Int)
  · obtain ⟨n, rfl⟩ := Int.eq_ofNat_of_zero_le hv.1
    have hn : n < k := by omega
    show E (putB (Nat.testBit b) (n : Int) so) = rowP k (n : Int) so R b
    rw [rowP_in hn, ← setB_put, ← putN_bit]
    exact h _ (putN_lt hb hn so)
  · rw [rowP_out (by omega)]
    show E (putB (Nat.testBit b) v so) = _
    rw [← h b hb]
    refine hd _ _ (fun x hx => ?_)
    unfold putB
    rw [if_neg (by omega)]
/-- With some, or all, values of a variable. -/
def rowS (k : Nat) (all : Bool) (R : Nat → Bool) (v : Int) : Nat → Bool := fun b => if all then rowP k v false R b && rowP k v true R b else rowP k v false R b || rowP k v true R b
theorem rowS_of {k : Nat} {E : (Nat → Bool) → Bool} {R : Nat → Bool} (hd : Deps k E) (h : RowOf k E R) (all : Bool) (v : Int) : RowOf k (eachOne (!all) E v) (rowS k all R v) := fun b hb => by
  have h1 := rowP_of hd h v false b hb
  have h2 := rowP_of hd h v true b hb
  unfold eachOne rowS
  simp only [] at h1 h2
  rw [h1, h2]
  cases all <;> rfl
theorem rowsS_of {k : Nat} (all : Bool) : ∀ (l : List Int) {E : (Nat → Bool) → Bool} {R : Nat → Bool}, Deps k E → RowOf k E R → RowOf k (eachEv (!all) E l) (l.foldl (rowS k all) R)
  | [], E, R, hd, h => h
  | v :: l, E, R, hd, h => rowsS_of all l (hd.each (!all) v) (rowS_of hd h all v)
/-- Is a row the same whatever a variable is? -/
def stillV (R : Nat → Bool) (k : Nat) (v : Int) (i : Nat) : Bool := (List.range i).all fun b => rowP k v false R b == rowP k v true R b
theorem stillV_succ (R : Nat → Bool) (k : Nat) (v : Int) (i : Nat) : stillV R k v (i + 1) = (stillV R k v i && (rowP k v false R i == rowP k v true R i)) := by
  unfold stillV; rw [List.range_succ, List.all_append]; simp
/-- The variables that a row changes with, of the first so many. -/
def rowV (R : Nat → Bool) (k m i : Nat) : List Int := ((List.range i).filter fun v : Nat => !stillV R k (v : Int) m).map fun v : Nat => (v : Int)
theorem rowV_succ (R : Nat → Bool) (k m i : Nat) : rowV R k m (i + 1) = if stillV R k (i : Int) m then rowV R k m i else rowV R k m i ++ [(i : Int)] := by
  unfold rowV
  rw [List.range_succ, List.filter_append]
  cases h : stillV R k (i : Int) m <;> simp [h]
theorem rowV_len (R : Nat → Bool) (k m i : Nat) : (rowV R k m i).length ≤ i := by
  unfold rowV
  rw [List.length_map]
  exact Nat.le_trans (List.length_filter_le _ _) (by simp)
theorem rowV_rises (R : Nat → Bool) (k m i : Nat) : (rowV R k m i).Pairwise (· < ·) := by
  unfold rowV
  rw [List.pairwise_map]
  exact ((List.pairwise_lt_range).filter _).imp (fun h => by omega)
theorem still_dep {k : Nat} {E : (Nat → Bool) → Bool} {R : Nat → Bool} (hd : Deps k E) (h : RowOf k E R) (v : Int) : stillV R k v (2 ^ k) = false ↔ DepE E v := by
  constructor
  · intro hs
    refine Classical.byContradiction fun hn => ?_
    have : stillV R k v (2 ^ k) = true := by
      unfold stillV
      rw [List.all_eq_true]
      intro b hb
      have hb' := List.mem_range.1 hb
      have h1 := rowP_of hd h v false b hb'
      have h2 := rowP_of hd h v true b hb'
      rw [beq_iff_eq, ← h1, ← h2]
      exact Classical.byContradiction fun e => hn ⟨_, e⟩
    rw [hs] at this; cases this
  · rintro ⟨β, hb⟩
    rw [Bool.eq_false_iff]
    intro hs
    unfold stillV at hs
    rw [List.all_eq_true] at hs
    have h0 := hs (ofB β k) (List.mem_range.2 (ofB_lt β k))
    have h1 := rowP_of hd h v false _ (ofB_lt β k)
    have h2 := rowP_of hd h v true _ (ofB_lt β k)
    rw [beq_iff_eq, ← h1, ← h2] at h0
    have hc := fun so => (hd.put v so) β (Nat.testBit (ofB β k)) (fun x hx => (ofB_test β k x hx).symm)
    have c1 := hc false
    have c2 := hc true
    simp only [] at c1 c2 h0
    exact hb (by rw [c1, c2, h0])
theorem rowV_mem {k : Nat} {E : (Nat → Bool) → Bool} {R : Nat → Bool} (hd : Deps k E) (h : RowOf k E R) (z : Int) : z ∈ rowV R k (2 ^ k) k ↔ DepE E z := by
  unfold rowV
  rw [List.mem_map]
  constructor
  · rintro ⟨v, hv, rfl⟩
    rw [List.mem_filter, Bool.not_eq_true'] at hv
    exact (still_dep hd h _).1 hv.2
  · rintro ⟨β, hb⟩
    have hz : 0 ≤ z ∧ z < (k : Int) := Classical.byContradiction fun hn => hb (hd _ _ (fun x hx => by rw [putB_other (by omega), putB_other (by omega)]))
    obtain ⟨v, rfl⟩ := Int.eq_ofNat_of_zero_le hz.1
    refine ⟨v, ?_, rfl⟩
    rw [List.mem_filter, Bool.not_eq_true', List.mem_range]
    exact ⟨by omega, (still_dep hd h _).2 ⟨β, hb⟩⟩
theorem rowV_eq {k : Nat} {E : (Nat → Bool) → Bool} {R : Nat → Bool} (hd : Deps k E) (h : RowOf k E R) {S : List Int} (hs : S.Pairwise (· < ·)) (hm : ∀ z, z ∈ S ↔ DepE E z) : S = rowV R k (2 ^ k) k :=
  rises_eq hs (rowV_rises R k _ _) (fun z => by rw [hm, rowV_mem hd h])
/-- The place of a row that is looked at. -/
theorem put_fin : ∀ i : Fin 64, ∀ v : Fin 6, putN i.val v.val false = (if i.val / 2 ^ v.val % 2 = 1 then i.val - 2 ^ v.val else i.val) ∧ putN i.val v.val true = (if i.val / 2 ^ v.val % 2 = 1 then i.val - 2 ^ v.val else i.val) + 2 ^ v.val ∧ (i.val / 2 ^ v.val % 2 = 1 → 2 ^ v.val ≤ i.val) := by decide +kernel
end Go.Proofs.Ytfakjhcpaiaekaa
/-
  The document's rows: a power of two, a row with a variable so, with some and all of variables, and what it changes with.
-/
set_option linter.unusedVariables false
set_option linter.unusedSimpArgs false
set_option linter.unnecessarySimpa false
namespace Go.Proofs.Ytfakjhcpaiaekaa
open Go.ChangeShapes Go.WideShapes Go.ChangeAt Go.RowKit Go.Deep NodePlain SatPlain
theorem own_nought2 {w : World} {base b : Nat} {e : TypeId} {size : Nat} (h : w.heap[b]? = some (.cells #[] e (0, 0))) (hb : base ≤ b) : w.ownsRow base e size (.slice (some ⟨b, 0, none⟩) 0 0) 0 [] :=
  ⟨by simp, .inr ⟨b, 0, #[], rfl, hb, h, Nat.le_refl _, by unfold maxLen; omega, by simp, by simp⟩⟩
/-- A row of bools of its own. -/
theorem rowX_own2 {w : World} {base g m cap : Nat} {R : Nat → Bool} (h : w.ownsRow base 4 1 (.slice (some ⟨g, 0, none⟩) m cap) m ((List.range m).map fun j => Value.bool (R j))) : RowX w g m R := by
  obtain ⟨hl, h | ⟨g', cap', cur, hv, _, hh, _, _, hs, ht⟩⟩ := h
  · cases h.1
  · simp only [Value.slice.injEq, Option.some.injEq, Addr.mk.injEq, and_true] at hv
    obtain ⟨rfl, _, _⟩ := hv
    refine ⟨cur, hh, fun j hj => ?_⟩
    have e : (cur.toList.take (m * 1))[j]? = ((List.range m).map fun j => Value.bool (R j))[j]? := by rw [ht]
    rw [List.getElem?_take_of_lt (by omega), Array.getElem?_toList, List.getElem?_map, List.getElem?_range hj] at e
    exact e
set_option maxRecDepth 100000
set_option maxHeartbeats 3200000
theorem step_spec (W : World) (v : Nat) (hv : v ≤ 6) {p : Nat} (hp : 2 ^ v = p) : Calls Try.prog 64 #[.int .i64 (v : Int)] W fun e W' => e = .returned (.int .i64 (p : Int)) ∧ W = W' := by
  have HPOW : Hid (∀ j, j < v → 2 ^ j * 2 = 2 ^ (j + 1) ∧ 2 ^ (j + 1) ≤ 64) := fun j hj => ⟨(Nat.pow_succ 2 j).symm, Nat.le_trans (Nat.pow_le_pow_right (by omega) (show j + 1 ≤ 6 by omega)) (by decide)⟩
  have HP := Lib.hid hp
  clear hp
  go_enter Try.func64, Try.ntmps64
  go_wp2_with fail
  go_loopg [3, 4] v (fun g s t wy => ∃ (j q : Nat), j ≤ v ∧ g = v - j ∧ s = .int .i64 q ∧ t = .int .i64 j ∧ Hid (2 ^ j = q) ∧ wy = W)
  case atStart => exact ⟨0, 1, Nat.zero_le _, rfl, rfl, rfl, Lib.hid (by decide), rfl⟩
  case round =>
    obtain ⟨j, q, hj, rfl, rfl, rfl, HQ, rfl⟩ := hrel
    by_cases hlt : j < v
    · have hjI : (j : Int) < (v : Int) := by omega
      obtain ⟨q1, q2⟩ := HPOW.out j hlt
      rw [HQ.out] at q1
      have hp : q * 2 ≤ 64 := by omega
      have HX := Lib.hid q1
      clear q1 q2
      go_wp2_with fail
      go_roundg (v - (j + 1))
      case measure => omega
      case rel => exact ⟨j + 1, q * 2, by omega, rfl, by go_num, by go_num, HX.out.symm, rfl⟩
    · have hjE : j = v := by omega
      have hjI : ¬ (j : Int) < (v : Int) := by omega
      have hpm : q = p := by rw [← HQ.out, ← HP.out, hjE]
      subst hpm
      clear HP HQ HPOW
      go_wp2_with fail
      go_ret
      exact ⟨rfl, rfl⟩
theorem rrow_spec {W : World} {b m cap k : Nat} {R : Nat → Bool} (h : RowX W b m R) (hcm : m ≤ cap) (hk : k ≤ 6) (hm : 2 ^ k = m) (v : Int) (so : Bool) :
    Calls Try.prog 31 #[.slice (some ⟨b, 0, none⟩) m cap, .int .i64 (k : Int), .int .i64 v, .bool so] W fun e W' => ∃ b' cap', e = .returned (.slice (some ⟨b', 0, none⟩) m cap') ∧ Hid (m ≤ cap' ∧ W.heap.size ≤ b' ∧ Keeps (fun _ => False) W W' ∧ RowX W' b' m (rowP k v so R)) := by
  obtain ⟨i0, hi0, hz0, hz1, hz2⟩ := info_parts binfo
  have hm64 : m ≤ 64 := by rw [← hm]; exact Nat.le_trans (Nat.pow_le_pow_right (by omega) hk) (by decide)
  have hmp : 0 < m := by rw [← hm]; exact Nat.two_pow_pos _
  have HR := Lib.hid h
  have HM := Lib.hid hm
  have ha4 := (MapKept.heap_alloc W (.cells #[] 4)).1
  have hk4a : Keeps (fun _ => False) W (W.alloc (.cells #[] 4)) := (Keeps.refl _ _).alloc _
  obtain ⟨news, hnews0⟩ : ∃ l, (List.range m).map (fun j => Value.bool (R j)) = l := ⟨_, rfl⟩
  have hnl : news.length = m * 1 := by rw [← hnews0]; simp
  have hnw : ∀ q u, news[q]? = some u → (W.alloc (.cells #[] 4)).cell? ((⟨b, 0, none⟩ : Addr).add q) = some u := fun q u hq => by
    rw [← hnews0, List.getElem?_map] at hq
    rw [Addr.add_lit, Nat.zero_add]
    rcases Nat.lt_or_ge q m with h1 | h1
    · rw [List.getElem?_range h1] at hq
      obtain rfl := Option.some.inj hq
      exact (h.keeps hk4a (fun x => x)).cell h1
    · rw [List.getElem?_eq_none (by simpa using h1)] at hq; cases hq
  have hn1c : ∀ u ∈ news, u.oneCell' = true := fun u hu => by
    rw [← hnews0] at hu
    obtain ⟨x, _, rfl⟩ := List.mem_map.1 hu
    rfl
  have HNW := Lib.hid hnews0
  clear hnews0 h hm
  go_enter Try.func31, Try.ntmps31
  go_wp2_with (at_builtin; refine wpList_append_own _ rfl _ _ 33 rfl W.heap.size 4 i0 _ 1 1 Try.underlying33 hi0 hz0 hz1 hz2 rfl (by decide) _ _ _ rfl (own_nought2 ha4 (Nat.le_refl _)) ⟨b, 0, none⟩ m cap news rfl hnl hnw hn1c (by unfold maxLen; omega) (by omega) (by simp) ?_)
  intro v5 w5 hown5 hgrow5 _
  obtain ⟨ao5, cl5, hv5, hle5, _, hno5, hb5⟩ := own_form hown5
  obtain ⟨bl, rfl⟩ : ∃ bl, ao5 = some ⟨bl, 0, none⟩ := by
    cases ao5 with
    | none => have := (hno5 rfl).1; omega
    | some a =>
      obtain ⟨q1, q2, _⟩ := hb5 a rfl
      obtain ⟨x, y, z⟩ := a
      simp only at q1 q2
      subst q1 q2
      exact ⟨x, rfl⟩
  have hbl := own_block hown5 bl (by rw [hv5]; rfl)
  have k45 : Keeps (fun _ => False) W w5 := hk4a.trans_new (keeps_grown hgrow5) (fun q hq e => by simp only [Value.ownBlock, Option.some.injEq] at e; omega)
  have HRX : Hid (RowX w5 bl m R) := by
    rw [hv5, ← HNW.out] at hown5
    exact rowX_own2 hown5
  have HBL : Hid (W.heap.size ≤ bl) := hbl
  have HKW := Lib.hid k45
  subst hv5
  clear hown5 hgrow5 hno5 hb5 hbl k45 hnl hnw hn1c ha4 hk4a HNW
  by_cases hv0 : v < 0
  · have HE : Hid (RowX w5 bl m (rowP k v so R)) := by rw [rowP_out (.inl hv0)]; exact HRX
    clear HRX HR HM
    go_wp2_with fail
    go_ret
    exact ⟨bl, cl5, rfl, hle5, HBL.out, HKW.out, HE.out⟩
  by_cases hv1 : (k : Int) ≤ v
  · have HE : Hid (RowX w5 bl m (rowP k v so R)) := by rw [rowP_out (.inr hv1)]; exact HRX
    clear HRX HR HM
    go_wp2_with fail
    go_ret
    exact ⟨bl, cl5, rfl, hle5, HBL.out, HKW.out, HE.out⟩
  obtain ⟨n, rfl⟩ := Int.eq_ofNat_of_zero_le (show 0 ≤ v by omega)
  have hnk : n < k := by omega
  obtain ⟨p, hp⟩ : ∃ p, 2 ^ n = p := ⟨_, rfl⟩
  have hp0 : 0 < p := by rw [← hp]; exact Nat.two_pow_pos n
  have hp64 : p ≤ 64 := by rw [← hp]; exact Nat.le_trans (Nat.pow_le_pow_right (by omega) (show n ≤ 6 by omega)) (by decide)
  have HC : Hid (∀ W : World, Calls Try.prog 64 #[.int .i64 (n : Int)] W fun e W' => e = .returned (.int .i64 (p : Int)) ∧ W = W') := fun W => step_spec W n (by omega) hp
  have HF : Hid (∀ i, i < m → ∀ so, putN i n so < m ∧ putN i n so = (if i / p % 2 = 1 then i - p else i) + (if so then p else 0) ∧ (i / p % 2 = 1 → p ≤ i)) := fun i hi so => by
    have q := put_fin ⟨i, by omega⟩ ⟨n, by omega⟩
    simp only [] at q
    rw [hp] at q
    refine ⟨?_, ?_, q.2.2⟩
    · rw [← HM.out] at hi ⊢; exact putN_lt hi hnk so
    · cases so
      · rw [if_neg (show ¬ (false = true) by decide), Nat.add_zero]; exact q.1
      · rw [if_pos rfl]; exact q.2.1
  clear hp
  have HX : Hid (rowP k (n : Int) so R = fun b => R (putN b n so)) := rowP_in hnk so R
  have hn0 : ¬ (n : Int) < 0 := by omega
  go_wp2_with fail
  go_loopg [25] m (fun g t wy => ∃ (i : Nat), i ≤ m ∧ g = m - i ∧ t = .int .i64 i ∧ Hid (Keeps (fun _ => False) W wy ∧ RowX wy bl m (fun j => if j < i then R (putN j n so) else R j)))
  case atStart => exact ⟨0, Nat.zero_le _, rfl, rfl, HKW.out, HRX.out.congr (fun j _ => by rw [if_neg (Nat.not_lt_zero _)])⟩
  case round =>
    clear HRX HKW
    obtain ⟨i, hi, rfl, rfl, HI⟩ := hrel
    by_cases hlt : i < m
    · have hiI : (i : Int) < (m : Int) := by omega
      obtain ⟨hq, hqe, hge⟩ := HF.out i hlt so
      obtain ⟨q, hqq⟩ : ∃ q, putN i n so = q := ⟨_, rfl⟩
      rw [hqq] at hq hqe
      have hqI : (q : Int) < (m : Int) := by omega
      have hq0 : (0 : Int) ≤ (q : Int) := by omega
      have cq := (HR.out.keeps HI.out.1 (fun x => x)).cell hq
      have co := HI.out.2.cell hlt
      have fz := HI.out.2.free i
      have lb := HI.out.2.lt
      have ls := Nat.lt_of_lt_of_le HR.out.lt HI.out.1.size
      have hne : b ≠ bl := by have := HBL.out; have := HR.out.lt; omega
      have HN : Hid (Keeps (fun _ => False) W (wr.setCell ⟨bl, i, none⟩ (.bool (R q))) ∧ RowX (wr.setCell ⟨bl, i, none⟩ (.bool (R q))) bl m (fun j => if j < i + 1 then R (putN j n so) else R j)) := by
        refine ⟨HI.out.1.setCell (fun h => by have := HBL.out; simp only [] at h; omega) _, (HI.out.2.set hlt (R q)).congr (fun j _ => ?_)⟩
        by_cases e : j = i
        · subst e; rw [if_pos rfl, if_pos (by omega), hqq]
        · rw [if_neg e]
          by_cases h : j < i
          · rw [if_pos h, if_pos (by omega)]
          · rw [if_neg h, if_neg (by omega)]
      have hdv : (i : Int).tdiv (p : Int) = ((i / p : Nat) : Int) := by
        rw [Int.tdiv_eq_ediv_of_nonneg (by omega)]; simp
      have hpz : ¬ (p : Int) = 0 := by omega
      have hpz2 : ¬ p = 0 := by omega
      have hdp : i / p ≤ 64 := Nat.le_trans (Nat.div_le_self i p) (by omega)
      clear HI
      generalize hdg : i / p = dv at hdv hdp hqe hge
      clear hdg
      by_cases hbit : dv % 2 = 1
      · have hbq : ((dv : Int) % 2 == 1) = true := beq_iff_eq.2 (by omega)
        have hpi := hge hbit
        rw [if_pos hbit] at hqe
        have hws : IntKind.i64.wrap ((i : Int) - (p : Int)) = ((i - p : Nat) : Int) := by rw [IntWalk.i64_in _ (by omega)]; omega
        clear hge
        cases so with
        | false =>
          rw [if_neg (by decide), Nat.add_zero] at hqe
          rw [← hqe] at hws
          clear hqe
          go_wp2_with fail
          refine (HC.out _).mono ?_
          rintro e w' ⟨rfl, rfl⟩
          go_wp2_with fail
          refine (HC.out _).mono ?_
          rintro e w' ⟨rfl, rfl⟩
          go_wp2_with fail
          go_roundg (m - (i + 1))
          case measure => omega
          case rel => exact ⟨i + 1, by omega, rfl, by go_num, HN⟩
        | true =>
          rw [if_pos rfl] at hqe
          obtain ⟨q1, hq1⟩ : ∃ q1, i - p = q1 := ⟨_, rfl⟩
          rw [hq1] at hws hqe
          have hwa : IntKind.i64.wrap ((q1 : Int) + (p : Int)) = (q : Int) := by rw [IntWalk.i64_in _ (by omega)]; omega
          clear hqe hq1
          go_wp2_with fail
          refine (HC.out _).mono ?_
          rintro e w' ⟨rfl, rfl⟩
          go_wp2_with fail
          refine (HC.out _).mono ?_
          rintro e w' ⟨rfl, rfl⟩
          go_wp2_with fail
          refine (HC.out _).mono ?_
          rintro e w' ⟨rfl, rfl⟩
          go_wp2_with fail
          go_roundg (m - (i + 1))
          case measure => omega
          case rel => exact ⟨i + 1, by omega, rfl, by go_num, HN⟩
      · have hbq : ((dv : Int) % 2 == 1) = false := beq_eq_false_iff_ne.2 (by omega)
        rw [if_neg hbit] at hqe
        clear hge
        cases so with
        | false =>
          rw [if_neg (by decide), Nat.add_zero] at hqe
          subst hqe
          go_wp2_with fail
          refine (HC.out _).mono ?_
          rintro e w' ⟨rfl, rfl⟩
          go_wp2_with fail
          go_roundg (m - (q + 1))
          case measure => omega
          case rel => exact ⟨q + 1, by omega, rfl, by go_num, HN⟩
        | true =>
          rw [if_pos rfl] at hqe
          have hwa : IntKind.i64.wrap ((i : Int) + (p : Int)) = (q : Int) := by rw [IntWalk.i64_in _ (by omega)]; omega
          clear hqe
          go_wp2_with fail
          refine (HC.out _).mono ?_
          rintro e w' ⟨rfl, rfl⟩
          go_wp2_with fail
          refine (HC.out _).mono ?_
          rintro e w' ⟨rfl, rfl⟩
          go_wp2_with fail
          go_roundg (m - (i + 1))
          case measure => omega
          case rel => exact ⟨i + 1, by omega, rfl, by go_num, HN⟩
    · obtain rfl : i = m := by omega
      have hiI : ¬ (i : Int) < (i : Int) := by omega
      have HE : Hid (Keeps (fun _ => False) W wr ∧ RowX wr bl i (rowP k (n : Int) so R)) := ⟨HI.out.1, HI.out.2.congr (fun j hj => by rw [HX.out, if_pos hj])⟩
      clear HI
      go_wp2_with fail
      go_ret
      exact ⟨bl, cl5, rfl, hle5, HBL.out, HE.out.1, HE.out.2⟩
end Go.Proofs.Ytfakjhcpaiaekaa
/-
  The document's rows: if-then-else, some and all of variables, what a row changes with; is a diagram true where a row is?
-/
set_option linter.unusedVariables false
set_option linter.unusedSimpArgs false
set_option linter.unnecessarySimpa false
namespace Go.Proofs.Ytfakjhcpaiaekaa
open Go.ChangeShapes Go.WideShapes Go.ChangeAt Go.RowKit Go.Deep NodePlain SatPlain
theorem RowAt.x {W : World} {b m : Nat} {R : Nat → Bool} (h : RowAt W b m R) : RowX W b m R := ⟨_, h, fun j hj => brow_get R m j hj⟩
set_option maxRecDepth 100000
set_option maxHeartbeats 3200000
theorem iteX_row (W : World) {bf bg bh m cf cg ch : Nat} (hm : m ≤ 64) {F G H : Nat → Bool} (hf : RowX W bf m F) (hcf : m ≤ cf) (hg : RowX W bg m G) (hcg : m ≤ cg) (hh : RowX W bh m H) (hch : m ≤ ch) :
    Calls Try.prog 33 #[.slice (some ⟨bf, 0, none⟩) m cf, .slice (some ⟨bg, 0, none⟩) m cg, .slice (some ⟨bh, 0, none⟩) m ch] W (RowPost m (fun i => if F i then G i else H i) W) := by
  obtain ⟨i0, hi0, hz0, hz1, hz2⟩ := info_parts binfo
  have HF := Lib.hid hf
  have HG := Lib.hid hg
  have HH := Lib.hid hh
  clear hf hg hh
  go_enter Try.func33, Try.ntmps33
  go_wp2_with (at_make; refine wpList_make_full _ rfl _ _ 33 rfl W.heap.size 4 i0 _ 1 Try.underlying33 hi0 hz0 hz1 .i64 .i64 _ _ m rfl rfl rfl rfl (by rw [hz2]; omega) (by unfold maxLen; omega) (Nat.le_refl _) ?_)
  intro w1 hown hgrow
  have k1 : Keeps (fun _ => False) W w1 := (keeps_grown hgrow).mono (fun _ _ h => by cases h)
  have hmade : RowAt w1 W.heap.size m (fun _ => false) := by
    have e := block_of_made (z := #[Value.bool false]) (size := 1) (n := m) (by rw [Nat.mul_one]; exact hown)
    have e2 := madeRow m
    unfold RowAt
    rw [e]
    exact congrArg (fun c => some (Obj.cells c _ _)) e2
  have HK := Lib.hid k1
  have HD := Lib.hid hmade
  clear hown hgrow k1 hmade
  go_wp2_with fail
  go_loopg [14] m (fun g t wy => ∃ (j : Nat), j ≤ m ∧ g = m - j ∧ t = .int .i64 j ∧ Hid (Keeps (fun _ => False) W wy) ∧ Hid (RowAt wy W.heap.size m (fun i => decide (i < j) && (if F i then G i else H i))))
  case atStart => exact ⟨0, Nat.zero_le _, rfl, rfl, HK.out, HD.out.congr (fun j _ => by simp)⟩
  case round =>
    clear HK HD
    obtain ⟨j, hj, rfl, rfl, HK, HR⟩ := hrel
    by_cases hlt : j < m
    · have hjI : (j : Int) < (m : Int) := by omega
      have c := HR.out.cell hlt
      have fz := free_of_heap HR.out j
      have lb := lt_of_heap HR.out
      have lf := HF.out.lt
      have lg := HG.out.lt
      have lh := HH.out.lt
      have hr := HK.out.size
      have qf := (HF.out.keeps HK.out (fun x => x)).cell hlt
      have qg := (HG.out.keeps HK.out (fun x => x)).cell hlt
      have qh := (HH.out.keeps HK.out (fun x => x)).cell hlt
      have nf : bf ≠ W.heap.size := by omega
      have ng : bg ≠ W.heap.size := by omega
      have nh : bh ≠ W.heap.size := by omega
      have HN : Hid (∀ x, x = (if F j then G j else H j) → ∀ w', w' = wr.setCell ⟨W.heap.size, j, none⟩ (.bool x) ∨ (∃ y, w' = (wr.setCell ⟨W.heap.size, j, none⟩ (.bool y)).setCell ⟨W.heap.size, j, none⟩ (.bool x)) → Keeps (fun _ => False) W w' ∧ RowAt w' W.heap.size m (fun i => decide (i < j + 1) && (if F i then G i else H i))) := fun x hx w' hw' => by
        have key : ∀ v : World, Keeps (fun _ => False) W v → (∃ Q, RowAt v W.heap.size m Q ∧ ∀ i, i < m → i ≠ j → Q i = (decide (i < j) && (if F i then G i else H i))) → Keeps (fun _ => False) W (v.setCell ⟨W.heap.size, j, none⟩ (.bool x)) ∧ RowAt (v.setCell ⟨W.heap.size, j, none⟩ (.bool x)) W.heap.size m (fun i => decide (i < j + 1) && (if F i then G i else H i)) := fun v hkv ⟨Q, hQ, hq⟩ => by
          refine ⟨hkv.setCell (fun h => by simp only [] at h; omega) _, (hQ.set hlt x).congr (fun i hi => ?_)⟩
          by_cases e : i = j
          · subst e; simp [hx]
          · rw [if_neg e, hq i hi e]
            have : decide (i < j) = decide (i < j + 1) := by
              by_cases h : i < j
              · rw [decide_eq_true h, decide_eq_true (by omega)]
              · rw [decide_eq_false h, decide_eq_false (by omega)]
            rw [this]
        rcases hw' with rfl | ⟨y, rfl⟩
        · exact key _ HK.out ⟨_, HR.out, fun _ _ _ => rfl⟩
        · refine key _ (HK.out.setCell (fun h => by simp only [] at h; omega) _) ⟨_, HR.out.set hlt y, fun i _ hne => by rw [if_neg hne]⟩
      clear HK HR
      cases hfj : F j with
      | false =>
        rw [hfj] at qf HN
        go_wp2_with fail
        go_roundg (m - (j + 1))
        case measure => omega
        case rel => exact ⟨j + 1, by omega, rfl, by go_num, (HN.out _ rfl _ (.inl rfl)).1, (HN.out _ rfl _ (.inl rfl)).2⟩
      | true =>
        rw [hfj] at qf HN
        go_wp2_with fail
        go_roundg (m - (j + 1))
        case measure => omega
        case rel => exact ⟨j + 1, by omega, rfl, by go_num, (HN.out _ rfl _ (.inr ⟨_, rfl⟩)).1, (HN.out _ rfl _ (.inr ⟨_, rfl⟩)).2⟩
    · have hjE : j = m := by omega
      have hjI : ¬ (j : Int) < (m : Int) := by omega
      rw [hjE] at HR
      have HX := Lib.hid (HR.out.congr (S := fun i => if F i then G i else H i) (fun i hi => by simp [hi]))
      clear HR
      go_wp2_with fail
      go_ret
      exact ⟨_, rfl, Nat.le_refl _, HK.out, HX.out⟩
theorem is_spec {W : World} {db b m cap k : Nat} {B : Int} {st : St} {calls : Int} {Fp : Nat → Prop} (h : Bd W db (k : Int) B st calls Fp) (hk6 : k ≤ 6) (hn : st.n ≤ 1000000000) {f : Int} {E : (Nat → Bool) → Bool} {R : Nat → Bool} (hf : isN st.n f = true) (he : ∀ β, NodePlain.ev st.L β f = E β) (hR : RowOf k E R) (hr : RowX W b m R) (hcm : m ≤ cap) (hm : 2 ^ k = m) :
    Calls Try.prog 32 #[.pointer (some ⟨db, 0, none⟩), .int .i64 f, .slice (some ⟨b, 0, none⟩) m cap] W fun e W' => e = .returned (.bool true) ∧ Hid (Keeps (fun _ => False) W W') := by
  have hm64 : m ≤ 64 := by rw [← hm]; exact Nat.le_trans (Nat.pow_le_pow_right (by omega) hk6) (by decide)
  have hfI := isN_iff.1 hf
  have HB := Lib.hid h
  have HR := Lib.hid hr
  have HE : Hid (∀ j, j < m → (isN st.n f && NodePlain.ev st.L (Nat.testBit j) f) = R j) := fun j hj => by rw [hf, Bool.true_and, he]; exact hR j (by rw [hm]; exact hj)
  clear h hr hR he hm hf
  go_enter Try.func32, Try.ntmps32
  go_wp2_with fail
  go_loopg [10] m (fun g t wy => ∃ i : Nat, i ≤ m ∧ g = m - i ∧ t = .int .i64 i ∧ Hid (Keeps (fun _ => False) W wy))
  case atStart => exact ⟨0, Nat.zero_le _, rfl, rfl, Keeps.refl _ _⟩
  case round =>
    obtain ⟨i, hi, rfl, rfl, HI⟩ := hrel
    by_cases hlt : i < m
    · have hiI : (i : Int) < (m : Int) := by omega
      have hwt : IntKind.u64.wrap (i : Int) = (i : Int) := IntWalk.u64_in _ (by omega)
      have hwi : IntKind.i64.wrap ((i : Int) + 1) = (i : Int) + 1 := IntWalk.i64_in _ (by omega)
      obtain ⟨v, hv⟩ : ∃ v, R i = v := ⟨_, rfl⟩
      have hS : wr.cell? ⟨b, i, none⟩ = some (.bool v) ∧ Hid (Keeps (fun _ => False) W wr) := ⟨by rw [← hv]; exact (HR.out.keeps HI.out (fun x => x)).cell hlt, HI⟩
      have HS := Lib.hid hS
      have KS : Hid (∀ W1 W', (W1.cell? ⟨b, i, none⟩ = some (.bool v) ∧ Hid (Keeps (fun _ => False) W W1)) → Keeps (fun _ => False) W1 W' → (W'.cell? ⟨b, i, none⟩ = some (.bool v) ∧ Hid (Keeps (fun _ => False) W W'))) := fun W1 W' h hk => by
        have hB := h.2.out.trans hk
        exact ⟨by rw [← hv]; exact (HR.out.keeps hB (fun x => x)).cell hlt, hB⟩
      have CA : Hid (∀ (P1 : Prop) (W1 : World), (P1 ∧ Hid (Keeps (fun _ => False) W W1)) → Calls Try.prog 65 #[.pointer (some ⟨db, 0, none⟩), .int .i64 f, .int .u64 i] W1 fun e w' => e = .returned (.bool v) ∧ Keeps (fun _ => False) W1 w') := fun _ W1 h => by
        have q := bat_spec (HB.out.quiet h.2.out) (by omega) hn f (by omega) (by omega) i (by omega)
        rw [HE.out i hlt, hv] at q
        exact q.mono fun e w' hh => ⟨hh.1, Keeps.of_below hh.2 (Nat.le_refl _)⟩
      clear hv hS
      go_upto_region 4 with fail
      go_cut [22] (fun t wx => t = .bool false ∧ Hid (Keeps (fun _ => False) W wx))
      case first =>
        go_region_held3 (fun w' => w'.cell? ⟨b, i, none⟩ = some (.bool v) ∧ Hid (Keeps (fun _ => False) W w')) (first | exact KS.out _ _ (by assumption) hk' | exact KS.out _ _ HS.out ((Keeps.refl _ _).drew)) ((go_at_call 65; refine (CA.out _ _ (by assumption)).mono ?_; rintro e w' ⟨rfl, hk'⟩))
        all_goals (go_wp2_with fail; go_meet; rename_i hh; exact ⟨rfl, hh.2⟩)
      case rest =>
        obtain ⟨rfl, HJ2⟩ := hcut
        clear KS CA HS HI
        go_wp2_with fail
        go_roundg (m - (i + 1))
        case measure => omega
        case rel => exact ⟨i + 1, by omega, rfl, by go_num, HJ2⟩
    · obtain rfl : i = m := by omega
      have hiI : ¬ (i : Int) < (i : Int) := by omega
      go_wp2_with fail
      go_ret
      exact ⟨rfl, HI⟩
theorem isame_spec {w : World} {u v : Value} {a b : List Int} (hu : ReadsI w u a) (hv : ReadsI w v b) (ha : a.length ≤ 1000000) (hab : a = b) :
    Calls Try.prog 35 #[u, v] w fun e w' => e = .returned (.bool true) ∧ ∃ nq, w' = w.drewN nq := by
  subst hab
  obtain ⟨au, cu, rfl, hcu0, hru⟩ := hu
  obtain ⟨av, cv, rfl, hcv0, hrv⟩ := hv
  obtain ⟨n, hn⟩ : ∃ n, a.length = n := ⟨_, rfl⟩
  rw [hn] at hcu0 hcv0 hru hrv ha ⊢
  have HU := Lib.hid hru; have HV := Lib.hid hrv; have HN := Lib.hid hn
  clear hru hrv hn
  go_enter Try.func35, Try.ntmps35
  go_wp2_with fail
  go_loopg [13] n (fun g s wr => ∃ k nq : Nat, k ≤ n ∧ g = n - k ∧ s = .int .i64 k ∧ wr = w.drewN nq)
  case atStart => exact ⟨0, 0, Nat.zero_le _, rfl, rfl, rfl⟩
  case round =>
    obtain ⟨k, nq, hk, rfl, rfl, rfl⟩ := hrel
    by_cases hlt : k < n
    · obtain ⟨gu, ou, rfl, hgu, hcu⟩ := HU.out (by omega)
      obtain ⟨gv, ov, rfl, hgv, hcv⟩ := HV.out (by omega)
      obtain ⟨x, hx⟩ : ∃ x, a[k]? = some x := ⟨_, List.getElem?_eq_getElem (by rw [HN.out]; exact hlt)⟩
      have cu1 := hcu k x hx
      have cv1 := hcv k x hx
      have hkI : (k : Int) < (n : Int) := by omega
      have hku : k < cu := by omega
      have hkv : k < cv := by omega
      clear hcu hcv hx
      go_wp2_with fail
      go_quiet (fail)
      go_wp2_with fail
      go_roundg (n - (k + 1))
      case measure => omega
      case rel => exact ⟨k + 1, _, by omega, rfl, by go_num, rfl⟩
    · obtain rfl : k = n := by omega
      have hkI : ¬ (k : Int) < (k : Int) := by omega
      go_wp2_with fail
      go_ret
      exact ⟨rfl, _, rfl⟩
end Go.Proofs.Ytfakjhcpaiaekaa
