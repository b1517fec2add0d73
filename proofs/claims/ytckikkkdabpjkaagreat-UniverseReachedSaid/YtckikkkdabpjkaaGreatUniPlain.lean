/-
 The states that are enough, as rows; that each is reached, and that they are enough. No program in sight.
-/
import Derived.Test.YtckikkkdabpjkaaGreatMN
import Derived.Test.YtckikkkdabpjkaaGreatRelevRef
import Derived.Test.YtckikkkdabpjkaaGreatMR
import Derived.Test.YtckikkkdabpjkaaGreatMI
set_option linter.unusedVariables false
set_option linter.unusedSimpArgs false
set_option linter.unnecessarySimpa false
namespace Go.Proofs.YtckikkkdabpjkaaGreat
def uRows (R : List Rol) (P L : List Str) : List Rol := R ++ P.flatMap (fun o => L.map (fun n => (o, n)))
def uRoles (R : List Rol) (P L : List Str) : List Rol := sortO rolLt (uRows R P L)
def uFree (g R : List Rol) (P L : List Str) : List Rol := (uRoles R P L).filter (fun r => !decide (r ∈ g))
def uMem (rs : List Rol) (P : List Str) : List Stm := rs.flatMap (fun r => P.map (memS r))
def uMin (a b : List Stm) : List Stm := sortO stmLt (a.filter (fun y => !decide (y ∈ b)))
def uBits (lo fx : List Stm) (rs : List Rol) (P : List Str) : List Stm := sortO stmLt (lo ++ uMin (uMem rs P) fx)
def uBase (st : List Stm) (R : List Rol) (L : List Str) : List Stm := st.filter (fun y => !hasV R L y.1)
/-- What the first so many bits choose. -/
def pickI (N : Nat) (l : List Stm) (i : Nat) : List Stm := (List.range i).flatMap (fun j => if N.testBit j then (l[j]?).toList else [])
theorem pick_zero (N : Nat) (l : List Stm) : pickI N l 0 = [] := rfl
theorem pick_yes {N : Nat} {l : List Stm} {i : Nat} {y : Stm} (hy : l[i]? = some y) (h : N.testBit i = true) : pickI N l (i + 1) = pickI N l i ++ [y] := by
 unfold pickI
 rw [List.range_succ, List.flatMap_append]
 simp [h, hy]
theorem pick_no {N : Nat} {l : List Stm} {i : Nat} (h : N.testBit i = false) : pickI N l (i + 1) = pickI N l i := by
 unfold pickI
 rw [List.range_succ, List.flatMap_append]
 simp [h]
theorem pick_mem {N : Nat} {l : List Stm} {i : Nat} {y : Stm} : y ∈ pickI N l i ↔ ∃ j, j < i ∧ N.testBit j = true ∧ l[j]? = some y := by
 unfold pickI
 rw [List.mem_flatMap]
 constructor
 ·rintro ⟨j, hj, h⟩
  split at h
  ·rename_i hb
   exact ⟨j, List.mem_range.1 hj, hb, by simpa using h⟩
  ·cases h
 ·rintro ⟨j, hj, hb, h⟩
  exact ⟨j, List.mem_range.2 hj, by rw [if_pos hb]; simpa using h⟩
theorem pick_len (N : Nat) (l : List Stm) : ∀ i, (pickI N l i).length ≤ i
 | 0 => Nat.le_refl _
 | i + 1 => by
  have := pick_len N l i
  by_cases hb : N.testBit i = true
  ·cases hy : l[i]? with
   | none =>
    have e : pickI N l (i + 1) = pickI N l i := by
     unfold pickI
     rw [List.range_succ, List.flatMap_append]
     simp [hb, hy]
    rw [e]; omega
   | some y => rw [pick_yes hy hb, List.length_append]; simp; omega
  ·rw [pick_no (by simpa using hb)]; omega
def uState (base fx bits : List Stm) (N : Nat) : List Stm := sortO stmLt (base ++ fx ++ pickI N bits bits.length)
theorem uState_mem {base fx bits : List Stm} {N : Nat} {y : Stm} : y ∈ uState base fx bits N ↔ y ∈ base ∨ y ∈ fx ∨ ∃ j, N.testBit j = true ∧ bits[j]? = some y := by
 unfold uState
 rw [sortO_mem, List.mem_append, List.mem_append, pick_mem]
 constructor
 ·rintro ((h | h) | ⟨j, hj, hb, h⟩)
  ·exact .inl h
  ·exact .inr (.inl h)
  ·exact .inr (.inr ⟨j, hb, h⟩)
 ·rintro (h | h | ⟨j, hb, h⟩)
  ·exact .inl (.inl h)
  ·exact .inl (.inr h)
  ·refine .inr ⟨j, ?_, hb, h⟩
   rcases Nat.lt_or_ge j bits.length with q | q
   ·exact q
   ·rw [List.getElem?_eq_none q] at h; cases h
theorem uState_mono {base fx bits : List Stm} {N M : Nat} (h : ∀ j, N.testBit j = true → M.testBit j = true) {y : Stm} (hy : y ∈ uState base fx bits N) : y ∈ uState base fx bits M := by
 rw [uState_mem] at hy ⊢
 rcases hy with q | q | ⟨j, q1, q2⟩
 ·exact .inl q
 ·exact .inr (.inl q)
 ·exact .inr (.inr ⟨j, h j q1, q2⟩)
section
variable (p : Pol) (q : Qry) (R : List Rol) (L : List Str)
def uPol : Pol := (p.1, p.2.1, p.2.2.1, [q])
def uV : List Str := tabL (whosV p.2.1 p.2.2.1 p.1 R L)
def uN : Int := freshN (linkV p.2.1 p.2.2.1 p.1 R L) (sortO rolLt (sigV p.2.1 p.2.2.1 p.1 q.2.2.1 R L)).length
def uF : List Str := freshL (tabL (prinsA (uPol p q))) (uN p q R L)
def uP : List Str := tabL (uF p q R L ++ uV p R L)
def uFr : List Rol := uFree p.2.1 R (uP p q R L) L
def uB : List Stm := uBits (looseV p.2.1 p.2.2.1 p.1 R L) (fixV p.2.1 p.2.2.1 p.1 R L) (uFr p q R L) (uP p q R L)
def uSt (N : Nat) : List Stm := uState (uBase p.1 R L) (fixV p.2.1 p.2.2.1 p.1 R L) (uB p q R L) N
end
/-- P10.2. -/
def reachB (p : Pol) (c : List Stm) : Bool := (c.all fun y => stmRB y && (decide (y ∈ p.1) || !decide (y.1 ∈ p.2.1))) && p.1.all fun y => !decide (y.1 ∈ p.2.2.1) || decide (y ∈ c)
theorem reach_iff {p : Pol} {c : List Stm} : reachB p c = true ↔ (∀ y ∈ c, stmRB y = true ∧ (y ∈ p.1 ∨ y.1 ∉ p.2.1)) ∧ ∀ y ∈ p.1, y.1 ∈ p.2.2.1 → y ∈ c := by
 unfold reachB
 rw [Bool.and_eq_true, List.all_eq_true, List.all_eq_true]
 refine and_congr (forall_congr' fun y => forall_congr' fun _ => ?_) (forall_congr' fun y => forall_congr' fun _ => ?_)
 ·rw [Bool.and_eq_true, Bool.or_eq_true, Bool.not_eq_true', decide_eq_true_iff, decide_eq_false_iff_not]
 ·rw [Bool.or_eq_true, Bool.not_eq_true', decide_eq_true_iff, decide_eq_false_iff_not]
  exact ⟨fun h hx => h.resolve_left (fun n => n hx), fun h => (Decidable.em _).elim (fun hx => .inr (h hx)) .inl⟩
section
variable {p : Pol} {q : Qry} {R : List Rol} {L : List Str}
theorem ask_parts (h : askB p q = true) : qryRB q = true ∧ q.1 = 6 ∧ (∀ x ∈ p.1, stmRB x = true) ∧ (∀ r, r ∈ p.2.1 ∨ r ∈ p.2.2.1 → roleB r = true) ∧ fitsPB (uPol p q) = true := by
 unfold askB polRB at h
 simp only [Bool.and_eq_true, decide_eq_true_eq] at h
 obtain ⟨⟨h1, h2⟩, ⟨⟨⟨⟨⟨h3, h4⟩, h5⟩, _⟩, _⟩, _⟩, h6⟩ := h
 refine ⟨h1, h2, List.all_eq_true.1 h3, fun r hr => List.all_eq_true.1 h4 r (List.mem_append.2 hr), h6⟩
theorem stm_roles {x : Stm} (h : stmRB x = true) : (∀ r ∈ rolesS x, roleB r = true) ∧ (x.2.1 = 1 → prinB x.2.2.1 = true) ∧ (x.2.1 = 3 → nameB x.2.2.2.2.2 = true) := by
 unfold stmRB at h
 rw [Bool.and_eq_true] at h
 obtain ⟨h0, h⟩ := h
 unfold rolesS
 by_cases h1 : x.2.1 = 1
 ·rw [if_pos h1] at h
  simp only [Bool.and_eq_true] at h
  refine ⟨fun r hr => ?_, fun _ => h.1.1.1, fun e => by omega⟩
  rw [if_neg (by omega), if_neg (by omega)] at hr
  rw [List.mem_singleton.1 hr]; exact h0
 rw [if_neg h1] at h
 by_cases h2 : x.2.1 = 2
 ·rw [if_pos h2] at h
  simp only [Bool.and_eq_true] at h
  refine ⟨fun r hr => ?_, fun e => by omega, fun e => by omega⟩
  rw [if_pos (by omega), if_neg (by omega)] at hr
  simp only [List.append_nil, List.mem_cons, List.not_mem_nil, or_false] at hr
  rcases hr with rfl | rfl
  ·exact h0
  ·exact h.1.1.2
 rw [if_neg h2] at h
 by_cases h3 : x.2.1 = 3
 ·rw [if_pos h3] at h
  simp only [Bool.and_eq_true] at h
  refine ⟨fun r hr => ?_, fun e => by omega, fun e => h.2⟩
  rw [if_pos (by omega), if_neg (by omega)] at hr
  simp only [List.append_nil, List.mem_cons, List.not_mem_nil, or_false] at hr
  rcases hr with rfl | rfl
  ·exact h0
  ·exact h.1.1.2
 rw [if_neg h3] at h
 by_cases h4 : x.2.1 = 4
 ·rw [if_pos h4] at h
  simp only [Bool.and_eq_true] at h
  refine ⟨fun r hr => ?_, fun e => by omega, fun e => by omega⟩
  rw [if_pos (by omega), if_pos h4] at hr
  simp only [List.mem_append, List.mem_cons, List.not_mem_nil, or_false] at hr
  rcases hr with rfl | rfl | rfl
  ·exact h0
  ·exact h.1.1.1.2
  ·exact h.1.1.2
 rw [if_neg h4] at h
 cases h
theorem uRoles_right (h : askB p q = true) : ∀ r ∈ rolesL (uPol p q), roleB r = true := by
 obtain ⟨h1, h2, h3, h4, _⟩ := ask_parts h
 intro r hr
 unfold rolesL uPol at hr
 simp only [List.mem_append, List.mem_flatMap, List.mem_singleton, exists_eq_left] at hr
 rcases hr with ((⟨x, hx, hr⟩ | hr) | hr) | hr
 ·exact (stm_roles (h3 x hx)).1 r hr
 ·exact h4 r (.inl hr)
 ·exact h4 r (.inr hr)
 ·unfold qryRB at h1
  rw [if_pos (by omega)] at h1
  simp only [Bool.and_eq_true] at h1
  unfold rolesQ at hr
  rw [if_pos (.inr h2)] at hr
  simp only [List.mem_cons, List.not_mem_nil, or_false] at hr
  rcases hr with rfl | rfl
  ·exact h1.1.1.2
  ·exact h1.2.1
theorem way_in (hw : OnWay p.2.1 p.2.2.1 p.1 q.2.1 q.2.2.1 R L) (h6 : q.1 = 6) : (∀ r ∈ R, r ∈ rolesL (uPol p q)) ∧ ∀ t ∈ L, ∃ x ∈ p.1, x.2.1 = 3 ∧ x.2.2.2.2.2 = t := by
 have hA : q.2.1 ∈ rolesL (uPol p q) := by
  unfold rolesL uPol
  refine List.mem_append_right _ (List.mem_flatMap.2 ⟨q, List.mem_singleton.2 rfl, ?_⟩)
  unfold rolesQ
  exact List.mem_cons_self ..
 have hB : q.2.2.1 ∈ rolesL (uPol p q) := by
  unfold rolesL uPol
  refine List.mem_append_right _ (List.mem_flatMap.2 ⟨q, List.mem_singleton.2 rfl, ?_⟩)
  unfold rolesQ
  rw [if_pos (.inr h6)]
  simp
 obtain ⟨a1, a2⟩ := hw.least (rolesL (uPol p q)) (p.1.flatMap viaS) hA hB (fun x hx _ => ⟨fun r hr => by
  unfold rolesL uPol
  refine List.mem_append_left _ (List.mem_append_left _ (List.mem_append_left _ (List.mem_flatMap.2 ⟨x, hx, ?_⟩)))
  unfold rolesS
  exact List.mem_cons_of_mem _ hr, fun t ht => List.mem_flatMap.2 ⟨x, hx, ht⟩⟩)
 refine ⟨a1, fun t ht => ?_⟩
 obtain ⟨x, hx, hv⟩ := List.mem_flatMap.1 (a2 t ht)
 unfold viaS at hv
 split at hv
 ·rename_i hk
  exact ⟨x, hx, hk, (List.mem_singleton.1 hv).symm⟩
 ·cases hv
theorem uV_in (hw : OnWay p.2.1 p.2.2.1 p.1 q.2.1 q.2.2.1 R L) (h6 : q.1 = 6) : ∀ w ∈ uV p R L, w ∈ prinsA (uPol p q) := by
 intro w hw0
 have h1 := way_in hw h6
 unfold uV at hw0
 rw [tab_mem] at hw0
 unfold whosV at hw0
 simp only [List.mem_append, List.mem_map, List.mem_flatMap, List.mem_filter] at hw0
 unfold prinsA
 rcases hw0 with (⟨r, hr, rfl⟩ | ⟨x, ⟨hx, _⟩, hv⟩) | ⟨r, ⟨hr, _⟩, rfl⟩
 ·exact List.mem_append_left _ (List.mem_append_left _ (List.mem_map.2 ⟨r, h1.1 r hr, rfl⟩))
 ·refine List.mem_append_left _ (List.mem_append_right _ (List.mem_flatMap.2 ⟨x, hx, ?_⟩))
  unfold prinsS
  exact hv
 ·refine List.mem_append_left _ (List.mem_append_left _ (List.mem_map.2 ⟨r, ?_, rfl⟩))
  unfold rolesL uPol
  rcases hr with q1 | q1
  ·exact List.mem_append_left _ (List.mem_append_left _ (List.mem_append_right _ q1))
  ·exact List.mem_append_left _ (List.mem_append_right _ q1)
theorem prins_right (h : askB p q = true) : ∀ w ∈ prinsA (uPol p q), prinB w = true := by
 obtain ⟨h1, h2, h3, h4, _⟩ := ask_parts h
 intro w hw
 unfold prinsA at hw
 simp only [List.mem_append, List.mem_map, List.mem_flatMap] at hw
 rcases hw with (⟨r, hr, rfl⟩ | ⟨x, hx, hv⟩) | ⟨x, hx, hv⟩
 ·have := uRoles_right h r hr
  unfold roleB at this
  exact (Bool.and_eq_true _ _ |>.mp this).1
 ·unfold prinsS at hv
  split at hv
  ·rename_i hk
   rw [List.mem_singleton.1 hv]
   exact (stm_roles (h3 x hx)).2.1 hk
  ·cases hv
 ·unfold uPol at hx
  obtain rfl := List.mem_singleton.1 hx
  rw [ask_who h1 h2] at hv
  cases hv
theorem prins_few (h : askB p q = true) : (tabL (prinsA (uPol p q))).length ≤ 16 := by
 have := (ask_parts h).2.2.2.2
 unfold fitsPB at this
 simp only [Bool.and_eq_true, decide_eq_true_eq] at this
 exact this.2.1
/-- A number's digits are no more than so many, and digits. -/
theorem decL_short : ∀ (d n : Nat), n < 10 ^ (d + 1) → (decL n).length ≤ d + 1 ∧ 0 < (decL n).length ∧ ∀ c ∈ decL n, 48 ≤ c.toNat ∧ c.toNat ≤ 57
 | 0, n, h => by
  have h' : n < 10 := by simpa using h
  rw [decL_lt h']
  refine ⟨by simp, by simp, fun c hc => ?_⟩
  rw [List.mem_singleton.1 hc, digU_toNat h']
  omega
 | d + 1, n, h => by
  by_cases h10 : n < 10
  ·rw [decL_lt h10]
   refine ⟨by simp, by simp, fun c hc => ?_⟩
   rw [List.mem_singleton.1 hc, digU_toNat h10]
   omega
  ·rw [decL_ge h10]
   have hp : n / 10 < 10 ^ (d + 1) := by
    rw [Nat.pow_succ] at h
    exact Nat.div_lt_of_lt_mul (by omega)
   obtain ⟨a1, a2, a3⟩ := decL_short d (n / 10) hp
   refine ⟨by simp; omega, by simp, fun c hc => ?_⟩
   rcases List.mem_append.1 hc with e | e
   ·exact a3 c e
   ·rw [List.mem_singleton.1 e, digU_toNat (by omega)]
    omega
theorem xL_prin {k : Nat} (h : k < 1000000) : prinB (xL k) = true := by
 obtain ⟨a1, a2, a3⟩ := decL_short 5 k (by simpa using h)
 unfold prinB isB xL
 have hs : (⟨(88 :: decL k).toArray⟩ : ByteArray).size = (decL k).length + 1 := by
  show (88 :: decL k).toArray.size = _
  simp
 rw [hs]
 simp only [Bool.and_eq_true, decide_eq_true_eq]
 refine ⟨⟨⟨by omega, by omega⟩, by rfl⟩, ?_⟩
 unfold allB
 rw [List.all_eq_true]
 intro j hj
 rw [List.mem_range] at hj
 unfold btN
 show letB (((88 :: decL k).getD j 0).toNat) = true
 match j, hj with
 | 0, _ => rfl
 | j + 1, hj =>
  rw [List.getD_cons_succ, List.getD_eq_getElem?_getD, List.getElem?_eq_getElem (by omega), Option.getD_some]
  obtain ⟨b1, b2⟩ := a3 _ (List.getElem_mem (l := decL k) (n := j) (by omega))
  unfold letB inB
  rw [decide_eq_true (by omega), decide_eq_true (by omega)]
  rfl
theorem uF_facts (h : askB p q = true) : ∀ w ∈ uF p q R L, prinB w = true ∧ w ∉ prinsA (uPol p q) := by
 intro w hw
 unfold uF at hw
 obtain ⟨h1, k, _, h3, rfl⟩ := freshL_out hw
 have := prins_few h
 exact ⟨xL_prin (by omega), fun e => h1 ((tab_mem _ _).2 e)⟩
theorem uP_mem {w : Str} : w ∈ uP p q R L ↔ w ∈ uF p q R L ∨ w ∈ uV p R L := by unfold uP; rw [tab_mem, List.mem_append]
theorem uP_right (h : askB p q = true) (hw : OnWay p.2.1 p.2.2.1 p.1 q.2.1 q.2.2.1 R L) : ∀ w ∈ uP p q R L, prinB w = true := by
 intro w hw0
 rcases uP_mem.1 hw0 with e | e
 ·exact (uF_facts h w e).1
 ·exact prins_right h w (uV_in hw (ask_parts h).2.1 w e)
theorem uFr_mem {r : Rol} : r ∈ uFr p q R L ↔ (r ∈ R ∨ r.1 ∈ uP p q R L ∧ r.2 ∈ L) ∧ r ∉ p.2.1 := by
 unfold uFr uFree uRoles uRows
 rw [List.mem_filter, sortO_mem, List.mem_append, List.mem_flatMap, Bool.not_eq_true', decide_eq_false_iff_not]
 refine and_congr (or_congr Iff.rfl ⟨?_, ?_⟩) Iff.rfl
 ·rintro ⟨o, ho, hn⟩
  obtain ⟨n, hn2, rfl⟩ := List.mem_map.1 hn
  exact ⟨ho, hn2⟩
 ·rintro ⟨ho, hn⟩
  exact ⟨r.1, ho, List.mem_map.2 ⟨r.2, hn, rfl⟩⟩
theorem uB_mem {y : Stm} : y ∈ uB p q R L ↔ y ∈ looseV p.2.1 p.2.2.1 p.1 R L ∨ (∃ r w, r ∈ uFr p q R L ∧ w ∈ uP p q R L ∧ y = memS r w) ∧ y ∉ fixV p.2.1 p.2.2.1 p.1 R L := by
 unfold uB uBits uMin uMem
 rw [sortO_mem, List.mem_append, sortO_mem, List.mem_filter, List.mem_flatMap, Bool.not_eq_true', decide_eq_false_iff_not]
 refine or_congr Iff.rfl (and_congr ⟨?_, ?_⟩ Iff.rfl)
 ·rintro ⟨r, hr, hy⟩
  obtain ⟨w, hw, rfl⟩ := List.mem_map.1 hy
  exact ⟨r, w, hr, hw, rfl⟩
 ·rintro ⟨r, w, hr, hw, rfl⟩
  exact ⟨r, hr, List.mem_map.2 ⟨w, hw, rfl⟩⟩
theorem mem_fix {y : Stm} : y ∈ fixV p.2.1 p.2.2.1 p.1 R L ↔ (y ∈ p.1 ∧ folB p.2.1 p.2.2.1 R L y = true) ∧ y.1 ∈ p.2.2.1 := by
 unfold fixV
 rw [List.mem_filter, List.mem_filter, decide_eq_true_iff]
theorem mem_loose {y : Stm} : y ∈ looseV p.2.1 p.2.2.1 p.1 R L ↔ (y ∈ p.1 ∧ folB p.2.1 p.2.2.1 R L y = true) ∧ y.1 ∉ p.2.2.1 := by
 unfold looseV
 rw [List.mem_filter, List.mem_filter, Bool.not_eq_true', decide_eq_false_iff_not]
theorem memS_right {r : Rol} {w : Str} (hr : roleB r = true) (hw : prinB w = true) : stmRB (memS r w) = true := by
 unfold stmRB memS
 simp only [hr, hw, if_true]
 rfl
theorem uFr_right (h : askB p q = true) (hw : OnWay p.2.1 p.2.2.1 p.1 q.2.1 q.2.2.1 R L) {r : Rol} (hr : r ∈ uFr p q R L) : roleB r = true := by
 obtain ⟨h1, h2, h3, _, _⟩ := ask_parts h
 obtain ⟨a1, a2⟩ := way_in hw h2
 rcases (uFr_mem.1 hr).1 with e | ⟨e1, e2⟩
 ·exact uRoles_right h r (a1 r e)
 ·unfold roleB
  rw [uP_right h hw _ e1, Bool.true_and]
  obtain ⟨x, hx, hk, e⟩ := a2 _ e2
  rw [← e]
  exact (stm_roles (h3 x hx)).2.2 hk
/-- Each state is reached. -/
theorem uni_reached (h : askB p q = true) (hw : OnWay p.2.1 p.2.2.1 p.1 q.2.1 q.2.2.1 R L) (N : Nat) : reachB p (uSt p q R L N) = true := by
 obtain ⟨h1, h2, h3, _, _⟩ := ask_parts h
 rw [reach_iff]
 unfold uSt
 refine ⟨fun y hy => ?_, fun y hy hs => ?_⟩
 ·rw [uState_mem] at hy
  have hown : y ∈ p.1 → stmRB y = true ∧ (y ∈ p.1 ∨ y.1 ∉ p.2.1) := fun e => ⟨h3 y e, .inl e⟩
  rcases hy with e | e | ⟨j, _, e⟩
  ·exact hown (List.mem_filter.1 e).1
  ·exact hown (mem_fix.1 e).1.1
  ·rcases uB_mem.1 (List.mem_of_getElem? e) with e | ⟨⟨r, w, hr, hw0, rfl⟩, _⟩
   ·exact hown (mem_loose.1 e).1.1
   ·exact ⟨memS_right (uFr_right h hw hr) (uP_right h hw w hw0), .inr (uFr_mem.1 hr).2⟩
 ·rw [uState_mem]
  by_cases hv : hasV R L y.1 = true
  ·exact .inr (.inl (mem_fix.2 ⟨⟨hy, fol_of hv (.inr hs)⟩, hs⟩))
  ·refine .inl (List.mem_filter.2 ⟨hy, by simpa using hv⟩)
end
end Go.Proofs.YtckikkkdabpjkaaGreat
