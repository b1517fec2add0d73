/-
 The states that are enough, as rows; that each is reached, and that they are enough. No program in sight.
-/
import Derived.Test.YtckikkkdabpjkaaGreatMN
import Derived.Test.YtckikkkdabpjkaaGreatRelevRef
import Derived.Test.YtckikkkdabpjkaaGreatMR
import Derived.Test.YtckikkkdabpjkaaGreatMI
set_option linter.unusedVariables false
set_option linter.unusedSimpArgs false
set_option linter.unnecessarySimpa false
namespace Go.Proofs.YtckikkkdabpjkaaGreat
def uRows (R : List Rol) (P L : List Str) : List Rol := R ++ P.flatMap (fun o => L.map (fun n => (o, n)))
def uRoles (R : List Rol) (P L : List Str) : List Rol := sortO rolLt (uRows R P L)
def uFree (g R : List Rol) (P L : List Str) : List Rol := (uRoles R P L).filter (fun r => !decide (r ∈ g))
def uMem (rs : List Rol) (P : List Str) : List Stm := rs.flatMap (fun r => P.map (memS r))
def uMin (a b : List Stm) : List Stm := sortO stmLt (a.filter (fun y => !decide (y ∈ b)))
def uBits (lo fx : List Stm) (rs : List Rol) (P : List Str) : List Stm := sortO stmLt (lo ++ uMin (uMem rs P) fx)
def uBase (st : List Stm) (R : List Rol) (L : List Str) : List Stm := st.filter (fun y => !hasV R L y.1)
/-- What the first so many bits choose. -/
def pickI (N : Nat) (l : List Stm) (i : Nat) : List Stm := (List.range i).flatMap (fun j => if N.testBit j then (l[j]?).toList else [])
theorem pick_zero (N : Nat) (l : List Stm) : pickI N l 0 = [] := rfl
theorem pick_yes {N : Nat} {l : List Stm} {i : Nat} {y : Stm} (hy : l[i]? = some y) (h : N.testBit i = true) : pickI N l (i + 1) = pickI N l i ++ [y] := by
 unfold pickI
 rw [List.range_succ, List.flatMap_append]
 simp [h, hy]
theorem pick_no {N : Nat} {l : List Stm} {i : Nat} (h : N.testBit i = false) : pickI N l (i + 1) = pickI N l i := by
 unfold pickI
 rw [List.range_succ, List.flatMap_append]
 simp [h]
theorem pick_mem {N : Nat} {l : List Stm} {i : Nat} {y : Stm} : y ∈ pickI N l i ↔ ∃ j, j < i ∧ N.testBit j = true ∧ l[j]? = some y := by
 unfold pickI
 rw [List.mem_flatMap]
 constructor
 ·rintro ⟨j, hj, h⟩
  split at h
  ·rename_i hb
   exact ⟨j, List.mem_range.1 hj, hb, by simpa using h⟩
  ·cases h
 ·rintro ⟨j, hj, hb, h⟩
  exact ⟨j, List.mem_range.2 hj, by rw [if_pos hb]; simpa using h⟩
theorem pick_len (N : Nat) (l : List Stm) : ∀ i, (pickI N l i).length ≤ i
 | 0 => Nat.le_refl _
 | i + 1 => by
  have := pick_len N l i
  by_cases hb : N.testBit i = true
  ·cases hy : l[i]? with
   | none =>
    have e : pickI N l (i + 1) = pickI N l i := by
     unfold pickI
     rw [List.range_succ, List.flatMap_append]
     simp [hb, hy]
    rw [e]; omega
   | some y => rw [pick_yes hy hb, List.length_append]; simp; omega
  ·rw [pick_no (by simpa using hb)]; omega
def uState (base fx bits : List Stm) (N : Nat) : List Stm := sortO stmLt (base ++ fx ++ pickI N bits bits.length)
theorem uState_mem {base fx bits : List Stm} {N : Nat} {y : Stm} : y ∈ uState base fx bits N ↔ y ∈ base ∨ y ∈ fx ∨ ∃ j, N.testBit j = true ∧ bits[j]? = some y := by
 unfold uState
 rw [sortO_mem, List.mem_append, List.mem_append, pick_mem]
 constructor
 ·rintro ((h | h) | ⟨j, hj, hb, h⟩)
  ·exact .inl h
  ·exact .inr (.inl h)
  ·exact .inr (.inr ⟨j, hb, h⟩)
 ·rintro (h | h | ⟨j, hb, h⟩)
  ·exact .inl (.inl h)
  ·exact .inl (.inr h)
  ·refine .inr ⟨j, ?_, hb, h⟩
   rcases Nat.lt_or_ge j bits.length with q | q
   ·exact q
   ·rw [List.getElem?_eq_none q] at h; cases h
section
variable (p : Pol) (q : Qry) (R : List Rol) (L : List Str)
def uPol : Pol := (p.1, p.2.1, p.2.2.1, [q])
def uV : List Str := tabL (whosV p.2.1 p.2.2.1 p.1 R L)
def uN : Int := freshN (linkV p.2.1 p.2.2.1 p.1 R L) (sortO rolLt (sigV p.2.1 p.2.2.1 p.1 q.2.2.1 R L)).length
def uF : List Str := freshL (tabL (prinsA (uPol p q))) (uN p q R L)
def uP : List Str := tabL (uF p q R L ++ uV p R L)
def uFr : List Rol := uFree p.2.1 R (uP p q R L) L
def uB : List Stm := uBits (looseV p.2.1 p.2.2.1 p.1 R L) (fixV p.2.1 p.2.2.1 p.1 R L) (uFr p q R L) (uP p q R L)
def uSt (N : Nat) : List Stm := uState (uBase p.1 R L) (fixV p.2.1 p.2.2.1 p.1 R L) (uB p q R L) N
end
/-- P10.2. -/
def reachB (p : Pol) (c : List Stm) : Bool := (c.all fun y => stmRB y && (decide (y ∈ p.1) || !decide (y.1 ∈ p.2.1))) && p.1.all fun y => !decide (y.1 ∈ p.2.2.1) || decide (y ∈ c)
theorem reach_iff {p : Pol} {c : List Stm} : reachB p c = true ↔ (∀ y ∈ c, stmRB y = true ∧ (y ∈ p.1 ∨ y.1 ∉ p.2.1)) ∧ ∀ y ∈ p.1, y.1 ∈ p.2.2.1 → y ∈ c := by
 unfold reachB
 rw [Bool.and_eq_true, List.all_eq_true, List.all_eq_true]
 refine and_congr (forall_congr' fun y => forall_congr' fun _ => ?_) (forall_congr' fun y => forall_congr' fun _ => ?_)
 ·rw [Bool.and_eq_true, Bool.or_eq_true, Bool.not_eq_true', decide_eq_true_iff, decide_eq_false_iff_not]
 ·rw [Bool.or_eq_true, Bool.not_eq_true', decide_eq_true_iff, decide_eq_false_iff_not]
  exact ⟨fun h hx => h.resolve_left (fun n => n hx), fun h => (Decidable.em _).elim (fun hx => .inr (h hx)) .inl⟩
section
variable {p : Pol} {q : Qry} {R : List Rol} {L : List Str}
theorem ask_parts (h : askB p q = true) : qryRB q = true ∧ q.1 = 6 ∧ (∀ x ∈ p.1, stmRB x = true) ∧ (∀ r, r ∈ p.2.1 ∨ r ∈ p.2.2.1 → roleB r = true) ∧ fitsPB (uPol p q) = true := by
 unfold askB polRB at h
 simp only [Bool.and_eq_true, decide_eq_true_eq] at h
 obtain ⟨⟨h1, h2⟩, ⟨⟨⟨⟨⟨h3, h4⟩, h5⟩, _⟩, _⟩, _⟩, h6⟩ := h
 refine ⟨h1, h2, List.all_eq_true.1 h3, fun r hr => List.all_eq_true.1 h4 r (List.mem_append.2 hr), h6⟩
theorem stm_roles {x : Stm} (h : stmRB x = true) : (∀ r ∈ rolesS x, roleB r = true) ∧ (x.2.1 = 1 → prinB x.2.2.1 = true) ∧ (x.2.1 = 3 → nameB x.2.2.2.2.2 = true) := by
 unfold stmRB at h
 rw [Bool.and_eq_true] at h
 obtain ⟨h0, h⟩ := h
 unfold rolesS
 by_cases h1 : x.2.1 = 1
 ·rw [if_pos h1] at h
  simp only [Bool.and_eq_true] at h
  refine ⟨fun r hr => ?_, fun _ => h.1.1.1, fun e => by omega⟩
  rw [if_neg (by omega), if_neg (by omega)] at hr
  rw [List.mem_singleton.1 hr]; exact h0
 rw [if_neg h1] at h
 by_cases h2 : x.2.1 = 2
 ·rw [if_pos h2] at h
  simp only [Bool.and_eq_true] at h
  refine ⟨fun r hr => ?_, fun e => by omega, fun e => by omega⟩
  rw [if_pos (by omega), if_neg (by omega)] at hr
  simp only [List.append_nil, List.mem_cons, List.not_mem_nil, or_false] at hr
  rcases hr with rfl | rfl
  ·exact h0
  ·exact h.1.1.2
 rw [if_neg h2] at h
 by_cases h3 : x.2.1 = 3
 ·rw [if_pos h3] at h
  simp only [Bool.and_eq_true] at h
  refine ⟨fun r hr => ?_, fun e => by omega, fun e => h.2⟩
  rw [if_pos (by omega), if_neg (by omega)] at hr
  simp only [List.append_nil, List.mem_cons, List.not_mem_nil, or_false] at hr
  rcases hr with rfl | rfl
  ·exact h0
  ·exact h.1.1.2
 rw [if_neg h3] at h
 by_cases h4 : x.2.1 = 4
 ·rw [if_pos h4] at h
  simp only [Bool.and_eq_true] at h
  refine ⟨fun r hr => ?_, fun e => by omega, fun e => by omega⟩
  rw [if_pos (by omega), if_pos h4] at hr
  simp only [List.mem_append, List.mem_cons, List.not_mem_nil, or_false] at hr
  rcases hr with rfl | rfl | rfl
  ·exact h0
  ·exact h.1.1.1.2
  ·exact h.1.1.2
 rw [if_neg h4] at h
 cases h
theorem uRoles_right (h : askB p q = true) : ∀ r ∈ rolesL (uPol p q), roleB r = true := by
 obtain ⟨h1, h2, h3, h4, _⟩ := ask_parts h
 intro r hr
 unfold rolesL uPol at hr
 simp only [List.mem_append, List.mem_flatMap, List.mem_singleton, exists_eq_left] at hr
 rcases hr with ((⟨x, hx, hr⟩ | hr) | hr) | hr
 ·exact (stm_roles (h3 x hx)).1 r hr
 ·exact h4 r (.inl hr)
 ·exact h4 r (.inr hr)
 ·unfold qryRB at h1
  rw [if_pos (by omega)] at h1
  simp only [Bool.and_eq_true] at h1
  unfold rolesQ at hr
  rw [if_pos (.inr h2)] at hr
  simp only [List.mem_cons, List.not_mem_nil, or_false] at hr
  rcases hr with rfl | rfl
  ·exact h1.1.1.2
  ·exact h1.2.1
theorem way_in (hw : OnWay p.2.1 p.2.2.1 p.1 q.2.1 q.2.2.1 R L) (h6 : q.1 = 6) : (∀ r ∈ R, r ∈ rolesL (uPol p q)) ∧ ∀ t ∈ L, ∃ x ∈ p.1, x.2.1 = 3 ∧ x.2.2.2.2.2 = t := by
 have hA : q.2.1 ∈ rolesL (uPol p q) := by
  unfold rolesL uPol
  refine List.mem_append_right _ (List.mem_flatMap.2 ⟨q, List.mem_singleton.2 rfl, ?_⟩)
  unfold rolesQ
  exact List.mem_cons_self ..
 have hB : q.2.2.1 ∈ rolesL (uPol p q) := by
  unfold rolesL uPol
  refine List.mem_append_right _ (List.mem_flatMap.2 ⟨q, List.mem_singleton.2 rfl, ?_⟩)
  unfold rolesQ
  rw [if_pos (.inr h6)]
  simp
 obtain ⟨a1, a2⟩ := hw.least (rolesL (uPol p q)) (p.1.flatMap viaS) hA hB (fun x hx _ => ⟨fun r hr => by
  unfold rolesL uPol
  refine List.mem_append_left _ (List.mem_append_left _ (List.mem_append_left _ (List.mem_flatMap.2 ⟨x, hx, ?_⟩)))
  unfold rolesS
  exact List.mem_cons_of_mem _ hr, fun t ht => List.mem_flatMap.2 ⟨x, hx, ht⟩⟩)
 refine ⟨a1, fun t ht => ?_⟩
 obtain ⟨x, hx, hv⟩ := List.mem_flatMap.1 (a2 t ht)
 unfold viaS at hv
 split at hv
 ·rename_i hk
  exact ⟨x, hx, hk, (List.mem_singleton.1 hv).symm⟩
 ·cases hv
theorem uV_in (hw : OnWay p.2.1 p.2.2.1 p.1 q.2.1 q.2.2.1 R L) (h6 : q.1 = 6) : ∀ w ∈ uV p R L, w ∈ prinsA (uPol p q) := by
 intro w hw0
 have h1 := way_in hw h6
 unfold uV at hw0
 rw [tab_mem] at hw0
 unfold whosV at hw0
 simp only [List.mem_append, List.mem_map, List.mem_flatMap, List.mem_filter] at hw0
 unfold prinsA
 rcases hw0 with (⟨r, hr, rfl⟩ | ⟨x, ⟨hx, _⟩, hv⟩) | ⟨r, ⟨hr, _⟩, rfl⟩
 ·exact List.mem_append_left _ (List.mem_append_left _ (List.mem_map.2 ⟨r, h1.1 r hr, rfl⟩))
 ·refine List.mem_append_left _ (List.mem_append_right _ (List.mem_flatMap.2 ⟨x, hx, ?_⟩))
  unfold prinsS
  exact hv
 ·refine List.mem_append_left _ (List.mem_append_left _ (List.mem_map.2 ⟨r, ?_, rfl⟩))
  unfold rolesL uPol
  rcases hr with q1 | q1
  ·exact List.mem_append_left _ (List.mem_append_left _ (List.mem_append_right _ q1))
  ·exact List.mem_append_left _ (List.mem_append_right _ q1)
theorem prins_right (h : askB p q = true) : ∀ w ∈ prinsA (uPol p q), prinB w = true := by
 obtain ⟨h1, h2, h3, h4, _⟩ := ask_parts h
 intro w hw
 unfold prinsA at hw
 simp only [List.mem_append, List.mem_map, List.mem_flatMap] at hw
 rcases hw with (⟨r, hr, rfl⟩ | ⟨x, hx, hv⟩) | ⟨x, hx, hv⟩
 ·have := uRoles_right h r hr
  unfold roleB at this
  exact (Bool.and_eq_true _ _ |>.mp this).1
 ·unfold prinsS at hv
  split at hv
  ·rename_i hk
   rw [List.mem_singleton.1 hv]
   exact (stm_roles (h3 x hx)).2.1 hk
  ·cases hv
 ·unfold uPol at hx
  obtain rfl := List.mem_singleton.1 hx
  rw [ask_who h1 h2] at hv
  cases hv
theorem prins_few (h : askB p q = true) : (tabL (prinsA (uPol p q))).length ≤ 16 := by
 have := (ask_parts h).2.2.2.2
 unfold fitsPB at this
 simp only [Bool.and_eq_true, decide_eq_true_eq] at this
 exact this.2.1
/-- A number's digits are no more than so many, and digits. -/
theorem decL_short : ∀ (d n : Nat), n < 10 ^ (d + 1) → (decL n).length ≤ d + 1 ∧ 0 < (decL n).length ∧ ∀ c ∈ decL n, 48 ≤ c.toNat ∧ c.toNat ≤ 57
 | 0, n, h => by
  have h' : n < 10 := by simpa using h
  rw [decL_lt h']
  refine ⟨by simp, by simp, fun c hc => ?_⟩
  rw [List.mem_singleton.1 hc, digU_toNat h']
  omega
 | d + 1, n, h => by
  by_cases h10 : n < 10
  ·rw [decL_lt h10]
   refine ⟨by simp, by simp, fun c hc => ?_⟩
   rw [List.mem_singleton.1 hc, digU_toNat h10]
   omega
  ·rw [decL_ge h10]
   have hp : n / 10 < 10 ^ (d + 1) := by
    rw [Nat.pow_succ] at h
    exact Nat.div_lt_of_lt_mul (by omega)
   obtain ⟨a1, a2, a3⟩ := decL_short d (n / 10) hp
   refine ⟨by simp; omega, by simp, fun c hc => ?_⟩
   rcases List.mem_append.1 hc with e | e
   ·exact a3 c e
   ·rw [List.mem_singleton.1 e, digU_toNat (by omega)]
    omega
theorem xL_prin {k : Nat} (h : k < 1000000) : prinB (xL k) = true := by
 obtain ⟨a1, a2, a3⟩ := decL_short 5 k (by simpa using h)
 unfold prinB isB xL
 have hs : (⟨(88 :: decL k).toArray⟩ : ByteArray).size = (decL k).length + 1 := by
  show (88 :: decL k).toArray.size = _
  simp
 rw [hs]
 simp only [Bool.and_eq_true, decide_eq_true_eq]
 refine ⟨⟨⟨by omega, by omega⟩, by rfl⟩, ?_⟩
 unfold allB
 rw [List.all_eq_true]
 intro j hj
 rw [List.mem_range] at hj
 unfold btN
 show letB (((88 :: decL k).getD j 0).toNat) = true
 match j, hj with
 | 0, _ => rfl
 | j + 1, hj =>
  rw [List.getD_cons_succ, List.getD_eq_getElem?_getD, List.getElem?_eq_getElem (by omega), Option.getD_some]
  obtain ⟨b1, b2⟩ := a3 _ (List.getElem_mem (l := decL k) (n := j) (by omega))
  unfold letB inB
  rw [decide_eq_true (by omega), decide_eq_true (by omega)]
  rfl
theorem uF_facts (h : askB p q = true) : ∀ w ∈ uF p q R L, prinB w = true ∧ w ∉ prinsA (uPol p q) := by
 intro w hw
 unfold uF at hw
 obtain ⟨h1, k, _, h3, rfl⟩ := freshL_out hw
 have := prins_few h
 exact ⟨xL_prin (by omega), fun e => h1 ((tab_mem _ _).2 e)⟩
theorem uP_mem {w : Str} : w ∈ uP p q R L ↔ w ∈ uF p q R L ∨ w ∈ uV p R L := by unfold uP; rw [tab_mem, List.mem_append]
theorem uP_right (h : askB p q = true) (hw : OnWay p.2.1 p.2.2.1 p.1 q.2.1 q.2.2.1 R L) : ∀ w ∈ uP p q R L, prinB w = true := by
 intro w hw0
 rcases uP_mem.1 hw0 with e | e
 ·exact (uF_facts h w e).1
 ·exact prins_right h w (uV_in hw (ask_parts h).2.1 w e)
theorem uFr_mem {r : Rol} : r ∈ uFr p q R L ↔ (r ∈ R ∨ r.1 ∈ uP p q R L ∧ r.2 ∈ L) ∧ r ∉ p.2.1 := by
 unfold uFr uFree uRoles uRows
 rw [List.mem_filter, sortO_mem, List.mem_append, List.mem_flatMap, Bool.not_eq_true', decide_eq_false_iff_not]
 refine and_congr (or_congr Iff.rfl ⟨?_, ?_⟩) Iff.rfl
 ·rintro ⟨o, ho, hn⟩
  obtain ⟨n, hn2, rfl⟩ := List.mem_map.1 hn
  exact ⟨ho, hn2⟩
 ·rintro ⟨ho, hn⟩
  exact ⟨r.1, ho, List.mem_map.2 ⟨r.2, hn, rfl⟩⟩
theorem uB_mem {y : Stm} : y ∈ uB p q R L ↔ y ∈ looseV p.2.1 p.2.2.1 p.1 R L ∨ (∃ r w, r ∈ uFr p q R L ∧ w ∈ uP p q R L ∧ y = memS r w) ∧ y ∉ fixV p.2.1 p.2.2.1 p.1 R L := by
 unfold uB uBits uMin uMem
 rw [sortO_mem, List.mem_append, sortO_mem, List.mem_filter, List.mem_flatMap, Bool.not_eq_true', decide_eq_false_iff_not]
 refine or_congr Iff.rfl (and_congr ⟨?_, ?_⟩ Iff.rfl)
 ·rintro ⟨r, hr, hy⟩
  obtain ⟨w, hw, rfl⟩ := List.mem_map.1 hy
  exact ⟨r, w, hr, hw, rfl⟩
 ·rintro ⟨r, w, hr, hw, rfl⟩
  exact ⟨r, hr, List.mem_map.2 ⟨w, hw, rfl⟩⟩
theorem mem_fix {y : Stm} : y ∈ fixV p.2.1 p.2.2.1 p.1 R L ↔ (y ∈ p.1 ∧ folB p.2.1 p.2.2.1 R L y = true) ∧ y.1 ∈ p.2.2.1 := by
 unfold fixV
 rw [List.mem_filter, List.mem_filter, decide_eq_true_iff]
theorem mem_loose {y : Stm} : y ∈ looseV p.2.1 p.2.2.1 p.1 R L ↔ (y ∈ p.1 ∧ folB p.2.1 p.2.2.1 R L y = true) ∧ y.1 ∉ p.2.2.1 := by
 unfold looseV
 rw [List.mem_filter, List.mem_filter, Bool.not_eq_true', decide_eq_false_iff_not]
theorem memS_right {r : Rol} {w : Str} (hr : roleB r = true) (hw : prinB w = true) : stmRB (memS r w) = true := by
 unfold stmRB memS
 simp only [hr, hw, if_true]
 rfl
theorem uFr_right (h : askB p q = true) (hw : OnWay p.2.1 p.2.2.1 p.1 q.2.1 q.2.2.1 R L) {r : Rol} (hr : r ∈ uFr p q R L) : roleB r = true := by
 obtain ⟨h1, h2, h3, _, _⟩ := ask_parts h
 obtain ⟨a1, a2⟩ := way_in hw h2
 rcases (uFr_mem.1 hr).1 with e | ⟨e1, e2⟩
 ·exact uRoles_right h r (a1 r e)
 ·unfold roleB
  rw [uP_right h hw _ e1, Bool.true_and]
  obtain ⟨x, hx, hk, e⟩ := a2 _ e2
  rw [← e]
  exact (stm_roles (h3 x hx)).2.2 hk
/-- Each state is reached. -/
theorem uni_reached (h : askB p q = true) (hw : OnWay p.2.1 p.2.2.1 p.1 q.2.1 q.2.2.1 R L) (N : Nat) : reachB p (uSt p q R L N) = true := by
 obtain ⟨h1, h2, h3, _, _⟩ := ask_parts h
 rw [reach_iff]
 unfold uSt
 refine ⟨fun y hy => ?_, fun y hy hs => ?_⟩
 ·rw [uState_mem] at hy
  have hown : y ∈ p.1 → stmRB y = true ∧ (y ∈ p.1 ∨ y.1 ∉ p.2.1) := fun e => ⟨h3 y e, .inl e⟩
  rcases hy with e | e | ⟨j, _, e⟩
  ·exact hown (List.mem_filter.1 e).1
  ·exact hown (mem_fix.1 e).1.1
  ·rcases uB_mem.1 (List.mem_of_getElem? e) with e | ⟨⟨r, w, hr, hw0, rfl⟩, _⟩
   ·exact hown (mem_loose.1 e).1.1
   ·exact ⟨memS_right (uFr_right h hw hr) (uP_right h hw w hw0), .inr (uFr_mem.1 hr).2⟩
 ·rw [uState_mem]
  by_cases hv : hasV R L y.1 = true
  ·exact .inr (.inl (mem_fix.2 ⟨⟨hy, fol_of hv (.inr hs)⟩, hs⟩))
  ·refine .inl (List.mem_filter.2 ⟨hy, by simpa using hv⟩)
theorem uF_nodup (p : Pol) (q : Qry) (R : List Rol) (L : List Str) : (uF p q R L).Nodup := by
 unfold uF freshL freshUp
 exact ((xs_nodup _).filter _).sublist (List.take_sublist _ _)
theorem fresh_pos {lk : Bool} {n : Nat} (h : freshN lk n ≠ 0) : (lk = false ∧ freshN lk n = 1) ∨ (lk = true ∧ n ≤ 4 ∧ freshN lk n = (2 : Int) ^ n) := by
 unfold freshN at h ⊢
 cases lk with
 | false => exact .inl ⟨rfl, rfl⟩
 | true =>
  simp only [if_true] at h ⊢
  by_cases hn : 4 < n
  ·rw [if_pos hn] at h; exact absurd rfl h
  ·rw [if_neg hn]
   exact .inr ⟨trivial, by omega, rfl⟩
theorem uF_len (h0 : uN p q R L ≠ 0) : (linkV p.2.1 p.2.2.1 p.1 R L = false ∧ (uF p q R L).length = 1) ∨ (linkV p.2.1 p.2.2.1 p.1 R L = true ∧ (uF p q R L).length = 2 ^ (sortO rolLt (sigV p.2.1 p.2.2.1 p.1 q.2.2.1 R L)).length) := by
 unfold uF
 rw [freshL_len]
 rcases fresh_pos h0 with ⟨a1, a2⟩ | ⟨a1, a2, a3⟩
 ·left
  refine ⟨a1, ?_⟩
  unfold uN
  rw [a2]
  rfl
 ·right
  refine ⟨a1, ?_⟩
  unfold uN
  rw [a3]
  generalize (sortO rolLt (sigV p.2.1 p.2.2.1 p.1 q.2.2.1 R L)).length = n at a2 ⊢
  match n, a2 with
  | 0, _ => rfl
  | 1, _ => rfl
  | 2, _ => rfl
  | 3, _ => rfl
  | 4, _ => rfl
/-- Whatever state is reached, in which somebody is in the first role, and not in the second one: one of these is such a state, too. -/
theorem uni_enough (h : askB p q = true) (hw : OnWay p.2.1 p.2.2.1 p.1 q.2.1 q.2.2.1 R L) (hs : Shut2 p.2.1 p.2.2.1 p.1 R L) (h0 : uN p q R L ≠ 0) {c : List Stm} (hc : reachB p c = true) {x : Str} (hx1 : Der c q.2.1 x) (hx2 : ¬ Der c q.2.2.1 x) :
 ∃ N, N < 2 ^ (uB p q R L).length ∧ ∃ x', Der (uSt p q R L N) q.2.1 x' ∧ ¬ Der (uSt p q R L N) q.2.2.1 x' := by
 obtain ⟨h1, h2, h3, h4, _⟩ := ask_parts h
 obtain ⟨c1, c2⟩ := reach_iff.1 hc
 obtain ⟨S, hS⟩ : ∃ S, sortO rolLt (sigV p.2.1 p.2.2.1 p.1 q.2.2.1 R L) = S := ⟨_, rfl⟩
 have hFV : ∀ w ∈ uF p q R L, w ∉ uV p R L := fun w e1 e2 => (uF_facts h w e1).2 (uV_in hw h2 w e2)
 -- the stand-ins
 have key : ∃ (f : Str → Str) (Dom : Str → Prop), Dom x ∧ Stand p.2.1 p.2.2.1 p.1 c R L (uV p R L) S f Dom ∧ ∀ w, f w ∈ uP p q R L := by
  have vR : ∀ r ∈ R, r.1 ∈ uV p R L := fun r hr => by
   unfold uV
   rw [tab_mem]
   unfold whosV
   exact List.mem_append_left _ (List.mem_append_left _ (List.mem_map.2 ⟨r, hr, rfl⟩))
  have vM : ∀ y ∈ p.1, folB p.2.1 p.2.2.1 R L y = true → y.2.1 = 1 → y.2.2.1 ∈ uV p R L := fun y hy hf hk => by
   unfold uV
   rw [tab_mem]
   unfold whosV
   refine List.mem_append_left _ (List.mem_append_right _ (List.mem_flatMap.2 ⟨y, List.mem_filter.2 ⟨hy, hf⟩, ?_⟩))
   rw [if_pos hk]
   exact List.mem_singleton.2 rfl
  have vG : ∀ r, r ∈ p.2.1 ∨ r ∈ p.2.2.1 → r.2 ∈ L → r.1 ∈ uV p R L := fun r hr hl => by
   unfold uV
   rw [tab_mem]
   unfold whosV
   exact List.mem_append_right _ (List.mem_map.2 ⟨r, List.mem_filter.2 ⟨List.mem_append.2 hr, decide_eq_true hl⟩, rfl⟩)
  have sB : ∀ y ∈ p.1, folB p.2.1 p.2.2.1 R L y = true → y.2.1 = 3 ∨ y.2.1 = 4 → y.2.2.2.1 ∈ S := fun y hy hf hk => by
   rw [← hS, sortO_mem]
   unfold sigV
   refine List.mem_cons_of_mem _ (List.mem_flatMap.2 ⟨y, List.mem_filter.2 ⟨hy, hf⟩, ?_⟩)
   rw [if_pos hk]
   exact List.mem_singleton.2 rfl
  rcases uF_len h0 with ⟨hl, hn⟩ | ⟨hl, hn⟩
  ·have hk : ∀ w : Str, (fun _ : Str => 0) w < (uF p q R L).length := fun w => by rw [hn]; exact Nat.one_pos
   refine ⟨standF (uV p R L) (uF p q R L) (fun _ => 0), fun w => w = x, rfl, ⟨fun y hy => standF_in hy, fun y hy => standF_back hFV hk hy, vR, vM, vG, ?_, sB, ?_, hs⟩, fun w => uP_mem.2 ((standF_mem hk w).symm)⟩
   ·rintro w1 w2 rfl rfl _ s _ hd
    exact hd
   ·intro y hy hf hk3 w
    have : linkV p.2.1 p.2.2.1 p.1 R L = true := by
     unfold linkV
     exact List.any_eq_true.2 ⟨y, List.mem_filter.2 ⟨hy, hf⟩, decide_eq_true hk3⟩
    rw [hl] at this; cases this
  ·rw [hS] at hn
   have hk : ∀ w : Str, profN c S w < (uF p q R L).length := fun w => by rw [hn]; exact profN_lt c S w
   refine ⟨standF (uV p R L) (uF p q R L) (profN c S), fun _ => True, trivial, ⟨fun y hy => standF_in hy, fun y hy => standF_back hFV hk hy, vR, vM, vG, ?_, sB, fun _ _ _ _ _ => trivial, hs⟩, fun w => uP_mem.2 ((standF_mem hk w).symm)⟩
   intro w1 w2 _ _ e s hsS hd
   rcases standF_same hFV (uF_nodup p q R L) hk e with e | e
   ·rw [← e]; exact hd
   ·exact profN_eq e s hsS hd
 obtain ⟨f, Dom, hdx, hst, hP⟩ := key
 -- what is chosen
 obtain ⟨N, hN, hT⟩ := bits_of (fun i => ∃ y, (uB p q R L)[i]? = some y ∧ ((y ∈ looseV p.2.1 p.2.2.1 p.1 R L ∧ y ∈ c) ∨ ∃ r w, Dom w ∧ Der c r w ∧ hasV R L r = true ∧ onR f r ∉ p.2.1 ∧ y = memS (onR f r) (f w))) (uB p q R L).length
 have hin : ∀ y, y ∈ uB p q R L → ((y ∈ looseV p.2.1 p.2.2.1 p.1 R L ∧ y ∈ c) ∨ ∃ r w, Dom w ∧ Der c r w ∧ hasV R L r = true ∧ onR f r ∉ p.2.1 ∧ y = memS (onR f r) (f w)) → y ∈ uSt p q R L N := fun y hy ht => by
  obtain ⟨i, hi⟩ := List.getElem?_of_mem hy
  unfold uSt
  rw [uState_mem]
  have hlt : i < (uB p q R L).length := by
   rcases Nat.lt_or_ge i (uB p q R L).length with e | e
   ·exact e
   ·rw [List.getElem?_eq_none e] at hi; cases hi
  exact .inr (.inr ⟨i, (hT i hlt).2 ⟨y, hi, ht⟩, hi⟩)
 have hsi : StandIn p.2.1 p.2.2.1 p.1 c (uSt p q R L N) R L f Dom := by
  refine ⟨fun y hy hf hyc => ?_, fun r w hd hr hv hg => ?_, fun y hy hv => ?_, fun y hy hg => ((c1 y hy).2.resolve_right (fun n => n hg))⟩
  ·by_cases hh : y.1 ∈ p.2.2.1
   ·unfold uSt
    rw [uState_mem]
    exact .inr (.inl (mem_fix.2 ⟨⟨hy, hf⟩, hh⟩))
   ·have hl := mem_loose.2 ⟨⟨hy, hf⟩, hh⟩
    exact hin y (uB_mem.2 (.inl hl)) (.inl ⟨hl, hyc⟩)
  ·by_cases hf : memS (onR f r) (f w) ∈ fixV p.2.1 p.2.2.1 p.1 R L
   ·unfold uSt
    rw [uState_mem]
    exact .inr (.inl hf)
   ·refine hin _ (uB_mem.2 (.inr ⟨⟨onR f r, f w, uFr_mem.2 ⟨?_, hg⟩, hP w, rfl⟩, hf⟩)) (.inr ⟨r, w, hd, hr, hv, hg, rfl⟩)
    rcases has_cases hv with e | e
    ·rw [hst.inR e]; exact .inl e
    ·exact .inr ⟨hP r.1, e⟩
  ·unfold uSt at hy
   rw [uState_mem] at hy
   rcases hy with e | e | ⟨j, hb, e⟩
   ·have := (List.mem_filter.1 e).2
    rw [hv] at this; cases this
   ·obtain ⟨⟨e1, e2⟩, e3⟩ := mem_fix.1 e
    exact .inl ⟨e1, e2, c2 y e1 e3⟩
   ·have hlt : j < (uB p q R L).length := by
     rcases Nat.lt_or_ge j (uB p q R L).length with e' | e'
     ·exact e'
     ·rw [List.getElem?_eq_none e'] at e; cases e
    obtain ⟨y', hy', ht⟩ := (hT j hlt).1 hb
    rw [e] at hy'
    cases hy'
    rcases ht with ⟨t1, t2⟩ | ⟨r, w, t1, t2, t3, t4, t5⟩
    ·obtain ⟨⟨e1, e2⟩, e3⟩ := mem_loose.1 t1
     exact .inl ⟨e1, e2, t2⟩
    ·exact .inr ⟨r, w, t1, t2, t3, t5⟩
 have hBS : q.2.2.1 ∈ S := by
  rw [← hS, sortO_mem]
  unfold sigV
  exact List.mem_cons_self ..
 exact ⟨N, hN, f x, hst.apart hsi hw.hA hw.hB hBS hdx hx1 hx2⟩
end
end Go.Proofs.YtckikkkdabpjkaaGreat
