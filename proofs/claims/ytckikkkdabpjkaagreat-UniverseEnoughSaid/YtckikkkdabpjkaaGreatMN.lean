/-
 Who is in which role by statements; that statements about roles that don't count change nothing; the document's rounds by names. No program in sight.
-/
import Derived.Test.YtckikkkdabpjkaaGreatMA
set_option linter.unusedVariables false
set_option linter.unusedSimpArgs false
namespace Go.Proofs.YtckikkkdabpjkaaGreat
/-- That a principal is in a role. -/
abbrev Pr := Rol × Str
inductive Der (F : List Stm) : Rol → Str → Prop
 | mem {y : Stm} : y ∈ F → y.2.1 = 1 → Der F y.1 y.2.2.1
 | incl {y : Stm} {w : Str} : y ∈ F → y.2.1 = 2 → Der F y.2.2.2.1 w → Der F y.1 w
 | link {y : Stm} {u w : Str} : y ∈ F → y.2.1 = 3 → Der F y.2.2.2.1 u → Der F (u, y.2.2.2.2.2) w → Der F y.1 w
 | both {y : Stm} {w : Str} : y ∈ F → y.2.1 = 4 → Der F y.2.2.2.1 w → Der F y.2.2.2.2.1 w → Der F y.1 w
theorem Der.mono {F F' : List Stm} (h : ∀ y ∈ F, y ∈ F') {r : Rol} {w : Str} (d : Der F r w) : Der F' r w := by
 induction d with
 | mem hy hk => exact .mem (h _ hy) hk
 | incl hy hk _ ih => exact .incl (h _ hy) hk ih
 | link hy hk _ _ ih1 ih2 => exact .link (h _ hy) hk ih1 ih2
 | both hy hk _ _ ih1 ih2 => exact .both (h _ hy) hk ih1 ih2
theorem has_role {R : List Rol} {L : List Str} {r : Rol} (h : r ∈ R) : hasV R L r = true := by
 unfold hasV
 rw [decide_eq_true h, Bool.true_or]
theorem has_name {R : List Rol} {L : List Str} {r : Rol} (h : r.2 ∈ L) : hasV R L r = true := by
 unfold hasV
 rw [decide_eq_true h, Bool.or_true]
/-- Whoever is in a role is named by a statement of the first kind; and a role that has somebody is a head. -/
theorem Der.named {F : List Stm} {r : Rol} {w : Str} (d : Der F r w) : r ∈ F.map (·.1) ∧ w ∈ F.map (·.2.2.1) := by
 induction d with
 | mem hy hk => exact ⟨List.mem_map.2 ⟨_, hy, rfl⟩, List.mem_map.2 ⟨_, hy, rfl⟩⟩
 | incl hy hk _ ih => exact ⟨List.mem_map.2 ⟨_, hy, rfl⟩, ih.2⟩
 | link hy hk _ _ ih1 ih2 => exact ⟨List.mem_map.2 ⟨_, hy, rfl⟩, ih2.2⟩
 | both hy hk _ _ ih1 ih2 => exact ⟨List.mem_map.2 ⟨_, hy, rfl⟩, ih1.2⟩
/-- Who follows by a statement, of what was found: of one pair that was found. -/
def folX (l : List Pr) (y : Stm) (x : Pr) : List Str :=
 if x.1 = y.2.2.2.1 then
  (if y.2.1 = 2 ∨ (y.2.1 = 4 ∧ (y.2.2.2.2.1, x.2) ∈ l) then [x.2] else []) ++ (if y.2.1 = 3 then (l.filter (fun z => decide (z.1 = (x.2, y.2.2.2.2.2)))).map (·.2) else [])
 else []
def folL (l : List Pr) (y : Stm) : List Str := if y.2.1 = 1 then [y.2.2.1] else l.flatMap (folX l y)
/-- One more pair, if it isn't there. -/
def addP (l : List Pr) (p : Pr) : List Pr := if p ∈ l then l else l ++ [p]
def stepP (l : List Pr) (y : Stm) : List Pr := (folL l y).foldl (fun l w => addP l (y.1, w)) l
theorem addP_mem {l : List Pr} {p x : Pr} : x ∈ addP l p ↔ x ∈ l ∨ x = p := by
 unfold addP
 split
 ·rename_i h
  exact ⟨.inl, fun q => q.elim id (fun e => by rw [e]; exact h)⟩
 ·rw [List.mem_append, List.mem_singleton]
theorem addsP_mem {r : Rol} : ∀ (ws : List Str) (l : List Pr) (x : Pr), x ∈ ws.foldl (fun l w => addP l (r, w)) l ↔ x ∈ l ∨ (x.1 = r ∧ x.2 ∈ ws)
 | [], l, x => by simp
 | w :: ws, l, x => by
  rw [List.foldl_cons, addsP_mem ws, addP_mem]
  constructor
  ·rintro ((h | rfl) | ⟨h1, h2⟩)
   ·exact .inl h
   ·exact .inr ⟨rfl, List.mem_cons_self ..⟩
   ·exact .inr ⟨h1, List.mem_cons_of_mem _ h2⟩
  ·rintro (h | ⟨h1, h2⟩)
   ·exact .inl (.inl h)
   ·rcases List.mem_cons.1 h2 with e | e
    ·exact .inl (.inr (Prod.ext h1 e))
    ·exact .inr ⟨h1, e⟩
theorem stepP_mem {l : List Pr} {y : Stm} {x : Pr} : x ∈ stepP l y ↔ x ∈ l ∨ (x.1 = y.1 ∧ x.2 ∈ folL l y) := addsP_mem _ _ _
theorem addP_nodup {l : List Pr} {p : Pr} (h : l.Nodup) : (addP l p).Nodup := by
 unfold addP
 split
 ·exact h
 ·rename_i hp
  exact List.nodup_append.2 ⟨h, List.pairwise_singleton _ _, fun a ha b hb e => hp (by rw [List.mem_singleton] at hb; rw [← hb, ← e]; exact ha)⟩
theorem addsP_nodup {r : Rol} : ∀ (ws : List Str) {l : List Pr}, l.Nodup → (ws.foldl (fun l w => addP l (r, w)) l).Nodup
 | [], _, h => h
 | w :: ws, _, h => addsP_nodup ws (addP_nodup h)
theorem addP_len (l : List Pr) (p : Pr) : l.length ≤ (addP l p).length ∧ ((addP l p).length = l.length → addP l p = l ∧ p ∈ l) := by
 unfold addP
 split
 ·rename_i h
  exact ⟨Nat.le_refl _, fun _ => ⟨rfl, h⟩⟩
 ·rw [List.length_append, List.length_singleton]
  exact ⟨Nat.le_succ _, fun e => by omega⟩
theorem addsP_len {r : Rol} : ∀ (ws : List Str) (l : List Pr), l.length ≤ (ws.foldl (fun l w => addP l (r, w)) l).length ∧ ((ws.foldl (fun l w => addP l (r, w)) l).length = l.length → ws.foldl (fun l w => addP l (r, w)) l = l)
 | [], l => ⟨Nat.le_refl _, fun _ => rfl⟩
 | w :: ws, l => by
  obtain ⟨a1, a2⟩ := addP_len l (r, w)
  obtain ⟨b1, b2⟩ := addsP_len ws (addP l (r, w))
  rw [List.foldl_cons]
  refine ⟨Nat.le_trans a1 b1, fun e => ?_⟩
  have e1 : (addP l (r, w)).length = l.length := by omega
  rw [(a2 e1).1] at b2 e ⊢
  exact b2 e
theorem folX_sound {F : List Stm} {l : List Pr} (hl : ∀ x ∈ l, Der F x.1 x.2) {y : Stm} (hy : y ∈ F) {x : Pr} (hx : x ∈ l) {w : Str} (hw : w ∈ folX l y x) : Der F y.1 w := by
 unfold folX at hw
 split at hw
 ·rename_i hA
  have hd := hl x hx
  rw [hA] at hd
  rcases List.mem_append.1 hw with h | h
  ·split at h
   ·rename_i hk
    rw [List.mem_singleton] at h
    subst h
    rcases hk with k | ⟨k, hb⟩
    ·exact .incl hy k hd
    ·exact .both hy k hd (hl _ hb)
   ·cases h
  ·split at h
   ·rename_i hk
    obtain ⟨z, hz, rfl⟩ := List.mem_map.1 h
    obtain ⟨hz1, hz2⟩ := List.mem_filter.1 hz
    have hz2 := of_decide_eq_true hz2
    have hdz := hl z hz1
    rw [hz2] at hdz
    exact .link hy hk hd hdz
   ·cases h
 ·cases hw
theorem folL_sound {F : List Stm} {l : List Pr} (hl : ∀ x ∈ l, Der F x.1 x.2) {y : Stm} (hy : y ∈ F) {w : Str} (hw : w ∈ folL l y) : Der F y.1 w := by
 unfold folL at hw
 split at hw
 ·rename_i hk
  rw [List.mem_singleton] at hw
  rw [hw]
  exact .mem hy hk
 ·obtain ⟨x, hx, hw⟩ := List.mem_flatMap.1 hw
  exact folX_sound hl hy hx hw
theorem stepP_sound {F : List Stm} {l : List Pr} (hl : ∀ x ∈ l, Der F x.1 x.2) {y : Stm} (hy : y ∈ F) : ∀ x ∈ stepP l y, Der F x.1 x.2 := fun x hx => by
 rcases stepP_mem.1 hx with h | ⟨h1, h2⟩
 ·exact hl x h
 ·rw [h1]
  exact folL_sound hl hy h2
/-- What is shut under the statements has all that follows. -/
theorem shut_all {F : List Stm} {l : List Pr} (hk : ∀ y ∈ F, 1 ≤ y.2.1 ∧ y.2.1 ≤ 4) (hs : ∀ y ∈ F, ∀ w ∈ folL l y, (y.1, w) ∈ l) {r : Rol} {w : Str} (d : Der F r w) : (r, w) ∈ l := by
 induction d with
 | @mem y hy hk =>
  refine hs y hy _ ?_
  unfold folL
  rw [if_pos hk]
  exact List.mem_singleton.2 rfl
 | @incl y w hy hk _ ih =>
  refine hs y hy _ ?_
  unfold folL
  rw [if_neg (by omega)]
  refine List.mem_flatMap.2 ⟨_, ih, ?_⟩
  unfold folX
  rw [if_pos rfl, if_pos (.inl hk)]
  exact List.mem_append_left _ (List.mem_singleton.2 rfl)
 | @link y u w hy hk _ _ ih1 ih2 =>
  refine hs y hy _ ?_
  unfold folL
  rw [if_neg (by omega)]
  refine List.mem_flatMap.2 ⟨_, ih1, ?_⟩
  unfold folX
  rw [if_pos rfl, if_pos hk]
  exact List.mem_append_right _ (List.mem_map.2 ⟨_, List.mem_filter.2 ⟨ih2, decide_eq_true rfl⟩, rfl⟩)
 | @both y w hy hk _ _ ih1 ih2 =>
  refine hs y hy _ ?_
  unfold folL
  rw [if_neg (by omega)]
  refine List.mem_flatMap.2 ⟨_, ih1, ?_⟩
  unfold folX
  rw [if_pos rfl, if_pos (.inr ⟨hk, ih2⟩)]
  exact List.mem_append_left _ (List.mem_singleton.2 rfl)
/-- What the rounds hold on the way: each once, and nothing that doesn't follow. -/
structure EvI (F : List Stm) (l : List Pr) : Prop where
 nd : l.Nodup
 der : ∀ x ∈ l, Der F x.1 x.2
theorem EvI.nil (F : List Stm) : EvI F [] := ⟨List.nodup_nil, fun x h => by cases h⟩
theorem EvI.step {F : List Stm} {l : List Pr} (h : EvI F l) {y : Stm} (hy : y ∈ F) : EvI F (stepP l y) := ⟨addsP_nodup _ h.nd, stepP_sound h.der hy⟩
theorem EvI.add {F : List Stm} {l l0 : List Pr} (h : EvI F l) {y : Stm} (hy : y ∈ F) (h0 : ∀ x ∈ l0, Der F x.1 x.2) {w : Str} (hw : w ∈ folL l0 y) : EvI F (addP l (y.1, w)) :=
 ⟨addP_nodup h.nd, fun x hx => (addP_mem.1 hx).elim (h.der x) (fun e => by rw [e]; exact folL_sound h0 hy hw)⟩
theorem nodup_le {α : Type} [DecidableEq α] : ∀ (R U : List α), R.Nodup → (∀ x ∈ R, x ∈ U) → R.length ≤ U.length
 | [], U, _, _ => Nat.zero_le _
 | x :: R, U, hp, hs => by
  have hp := List.nodup_cons.1 hp
  have hx := hs x (List.mem_cons_self ..)
  have ih := nodup_le R (U.erase x) hp.2 (fun y hy => (List.mem_erase_of_ne (fun e => hp.1 (by rw [← e]; exact hy))).2 (hs y (List.mem_cons_of_mem _ hy)))
  rw [List.length_erase_of_mem hx] at ih
  have := List.length_pos_of_mem hx
  simp only [List.length_cons]
  omega
/-- Pairs of so many roles and so many names, each once. -/
theorem pairs_le {A : List Rol} {U : List Str} : ∀ (l : List Pr), l.Nodup → (∀ x ∈ l, x.1 ∈ A ∧ x.2 ∈ U) → l.length ≤ A.length * U.length := fun l hn hm => by
 have h : l ⊆ A.flatMap (fun a => U.map (fun u => (a, u))) := fun x hx => List.mem_flatMap.2 ⟨x.1, (hm x hx).1, List.mem_map.2 ⟨x.2, (hm x hx).2, rfl⟩⟩
 have hl := nodup_le l _ hn h
 have e : ∀ A : List Rol, (A.flatMap (fun a => U.map (fun u => (a, u)))).length = A.length * U.length := by
  intro A
  induction A with
  | nil => simp
  | cons a A ih => rw [List.flatMap_cons, List.length_append, ih, List.length_map, List.length_cons, Nat.add_mul, Nat.one_mul, Nat.add_comm]
 rw [e A] at hl
 exact hl
theorem EvI.len {F : List Stm} {l : List Pr} (h : EvI F l) : l.length ≤ F.length * F.length := by
 have := pairs_le (A := F.map (·.1)) (U := F.map (·.2.2.1)) l h.nd (fun x hx => (h.der x hx).named)
 rw [List.length_map, List.length_map] at this
 exact this
/-- Of one role there are no more than names. -/
theorem EvI.of_role {F : List Stm} {l : List Pr} (h : EvI F l) (r : Rol) : (l.filter (fun z => decide (z.1 = r))).length ≤ F.length := by
 have := pairs_le (A := [r]) (U := F.map (·.2.2.1)) (l.filter (fun z => decide (z.1 = r))) (h.nd.filter _) (fun x hx => by
  obtain ⟨h1, h2⟩ := List.mem_filter.1 hx
  exact ⟨List.mem_singleton.2 (of_decide_eq_true h2), (h.der x h1).named.2⟩)
 rw [List.length_map, List.length_singleton, Nat.one_mul] at this
 exact this
end Go.Proofs.YtckikkkdabpjkaaGreat
/-
 The states that are enough: whatever state a policy reaches, somebody who is in one role there, and not in another one, has a stand-in in one of these. No program in sight.
-/
set_option linter.unusedVariables false
set_option linter.unusedSimpArgs false
namespace Go.Proofs.YtckikkkdabpjkaaGreat
/-- That somebody is in a role, as a statement. -/
def memS (r : Rol) (w : Str) : Stm := (r, 1, w, ([], []), ([], []), [])
/-- A role whose owner is somebody else. -/
def onR (f : Str → Str) (r : Rol) : Rol := (f r.1, r.2)
section
variable {g h : List Rol} {st c d : List Stm} {R : List Rol} {L V : List Str} {S : List Rol} {f : Str → Str} {Dom : Str → Prop}
/-- What stand-ins are. -/
structure Stand (g h : List Rol) (st c : List Stm) (R : List Rol) (L V : List Str) (S : List Rol) (f : Str → Str) (Dom : Str → Prop) : Prop where
 f1 : ∀ y ∈ V, f y = y
 f2 : ∀ y, f y ∈ V → f y = y
 vR : ∀ r ∈ R, r.1 ∈ V
 vM : ∀ y ∈ st, folB g h R L y = true → y.2.1 = 1 → y.2.2.1 ∈ V
 vG : ∀ r, r ∈ g ∨ r ∈ h → r.2 ∈ L → r.1 ∈ V
 sig : ∀ w1 w2, Dom w1 → Dom w2 → f w1 = f w2 → ∀ s ∈ S, Der c s w1 → Der c s w2
 sB : ∀ y ∈ st, folB g h R L y = true → y.2.1 = 3 ∨ y.2.1 = 4 → y.2.2.2.1 ∈ S
 all : ∀ y ∈ st, folB g h R L y = true → y.2.1 = 3 → ∀ w, Dom w
 shut : Shut2 g h st R L
/-- What the state of the stand-ins is. -/
structure StandIn (g h : List Rol) (st c d : List Stm) (R : List Rol) (L : List Str) (f : Str → Str) (Dom : Str → Prop) : Prop where
 own : ∀ y ∈ st, folB g h R L y = true → y ∈ c → y ∈ d
 new : ∀ r w, Dom w → Der c r w → hasV R L r = true → onR f r ∉ g → memS (onR f r) (f w) ∈ d
 only : ∀ y ∈ d, hasV R L y.1 = true → (y ∈ st ∧ folB g h R L y = true ∧ y ∈ c) ∨ ∃ r w, Dom w ∧ Der c r w ∧ hasV R L r = true ∧ y = memS (onR f r) (f w)
 come : ∀ y ∈ c, y.1 ∈ g → y ∈ st
theorem Stand.inR (q : Stand g h st c R L V S f Dom) {r : Rol} (hr : r ∈ R) : onR f r = r := by
 unfold onR
 rw [q.f1 _ (q.vR r hr)]
theorem Stand.backR (q : Stand g h st c R L V S f Dom) {r s : Rol} (hs : s ∈ R) (e : onR f r = s) : r = s := by
 have h1 : f r.1 = s.1 := by rw [← e]; rfl
 have h2 : f r.1 = r.1 := q.f2 _ (by rw [h1]; exact q.vR s hs)
 rw [← e]
 unfold onR
 rw [h2]
theorem has_cases {r : Rol} (hr : hasV R L r = true) : r ∈ R ∨ r.2 ∈ L := by
 unfold hasV at hr
 rcases Bool.or_eq_true _ _ |>.mp hr with q | q
 ·exact .inl (of_decide_eq_true q)
 ·exact .inr (of_decide_eq_true q)
theorem fol_parts {y : Stm} (hf : folB g h R L y = true) : hasV R L y.1 = true ∧ (y.1 ∈ g ∨ y.1 ∈ h) := by
 unfold folB at hf
 obtain ⟨h1, h2⟩ := Bool.and_eq_true _ _ |>.mp hf
 refine ⟨h1, ?_⟩
 unfold boundB at h2
 rcases Bool.or_eq_true _ _ |>.mp h2 with q | q
 ·exact .inl (of_decide_eq_true q)
 ·exact .inr (of_decide_eq_true q)
theorem fol_of {y : Stm} (h1 : hasV R L y.1 = true) (h2 : y.1 ∈ g ∨ y.1 ∈ h) : folB g h R L y = true := by
 unfold folB boundB
 rw [h1, Bool.true_and]
 rcases h2 with q | q
 ·rw [decide_eq_true q, Bool.true_or]
 ·rw [decide_eq_true q, Bool.or_true]
theorem Stand.bound (q : Stand g h st c R L V S f Dom) {r : Rol} (hr : hasV R L r = true) (hb : r ∈ g ∨ r ∈ h) : onR f r = r := by
 rcases has_cases hr with e | e
 ·exact q.inR e
 ·unfold onR
  rw [q.f1 _ (q.vG r hb e)]
theorem Stand.boundB (q : Stand g h st c R L V S f Dom) {r : Rol} (hr : hasV R L r = true) (hb : onR f r ∈ g) : onR f r = r := by
 rcases has_cases hr with e | e
 ·exact q.inR e
 ·have h1 : f r.1 ∈ V := q.vG _ (.inl hb) e
  have h2 : f r.1 = r.1 := q.f2 _ h1
  unfold onR
  rw [h2]
theorem more_A {y : Stm} (h2 : y.2.1 = 2 ∨ y.2.1 = 3 ∨ y.2.1 = 4) : y.2.2.2.1 ∈ moreS y := by
 unfold moreS
 rw [if_pos (by omega)]
 exact List.mem_append_left _ (List.mem_singleton.2 rfl)
theorem more_B {y : Stm} (h2 : y.2.1 = 4) : y.2.2.2.2.1 ∈ moreS y := by
 unfold moreS
 rw [if_pos h2]
 exact List.mem_append_right _ (List.mem_singleton.2 rfl)
theorem via_A {y : Stm} (h2 : y.2.1 = 3) : y.2.2.2.2.2 ∈ viaS y := by
 unfold viaS
 rw [if_pos h2]
 exact List.mem_singleton.2 rfl
/-- Whoever is in a role that counts has a stand-in there. -/
theorem Stand.fwd (q : Stand g h st c R L V S f Dom) (p : StandIn g h st c d R L f Dom) {r : Rol} {w : Str} (dr : Der c r w) : hasV R L r = true → Dom w → Der d (onR f r) (f w) := by
 induction dr with
 | @mem y hy hk =>
  intro hr hw
  by_cases hg : onR f y.1 ∈ g
  ·have e := q.boundB hr hg
   rw [e] at hg ⊢
   have hst := p.come y hy hg
   have hf := fol_of hr (.inl hg : _ ∨ y.1 ∈ h)
   rw [q.f1 _ (q.vM y hst hf hk)]
   exact .mem (p.own y hst hf hy) hk
  ·exact Der.mem (p.new _ _ hw (.mem hy hk) hr hg) rfl
 | @incl y w hy hk d1 ih =>
  intro hr hw
  by_cases hg : onR f y.1 ∈ g
  ·have e := q.boundB hr hg
   rw [e] at hg ⊢
   have hst := p.come y hy hg
   have hf := fol_of hr (.inl hg : _ ∨ y.1 ∈ h)
   have hA := (q.shut y hst hf).1 _ (more_A (.inl hk))
   have := ih (has_role hA) hw
   rw [q.inR hA] at this
   exact .incl (p.own y hst hf hy) hk this
  ·exact Der.mem (p.new _ _ hw (.incl hy hk d1) hr hg) rfl
 | @link y u w hy hk d1 d2 ih1 ih2 =>
  intro hr hw
  by_cases hg : onR f y.1 ∈ g
  ·have e := q.boundB hr hg
   rw [e] at hg ⊢
   have hst := p.come y hy hg
   have hf := fol_of hr (.inl hg : _ ∨ y.1 ∈ h)
   have hA := (q.shut y hst hf).1 _ (more_A (.inr (.inl hk)))
   have hL := (q.shut y hst hf).2 _ (via_A hk)
   have a1 := ih1 (has_role hA) (q.all y hst hf hk u)
   rw [q.inR hA] at a1
   have a2 := ih2 (has_name hL) hw
   exact .link (p.own y hst hf hy) hk a1 a2
  ·exact Der.mem (p.new _ _ hw (.link hy hk d1 d2) hr hg) rfl
 | @both y w hy hk d1 d2 ih1 ih2 =>
  intro hr hw
  by_cases hg : onR f y.1 ∈ g
  ·have e := q.boundB hr hg
   rw [e] at hg ⊢
   have hst := p.come y hy hg
   have hf := fol_of hr (.inl hg : _ ∨ y.1 ∈ h)
   have hA := (q.shut y hst hf).1 _ (more_A (.inr (.inr hk)))
   have hB := (q.shut y hst hf).1 _ (more_B hk)
   have a1 := ih1 (has_role hA) hw
   have a2 := ih2 (has_role hB) hw
   rw [q.inR hA] at a1
   rw [q.inR hB] at a2
   exact .both (p.own y hst hf hy) hk a1 a2
  ·exact Der.mem (p.new _ _ hw (.both hy hk d1 d2) hr hg) rfl
/-- Where all have stand-ins, whoever is in a role that counts is one. -/
theorem Stand.ones (q : Stand g h st c R L V S f Dom) (p : StandIn g h st c d R L f Dom) (hall : ∀ w, Dom w) {r : Rol} {w : Str} (dr : Der d r w) : hasV R L r = true → ∃ w0, f w0 = w := by
 induction dr with
 | @mem y hy hk =>
  intro hr
  rcases p.only y hy hr with ⟨a1, a2, a3⟩ | ⟨r0, w0, a1, a2, a3, rfl⟩
  ·exact ⟨_, q.f1 _ (q.vM y a1 a2 hk)⟩
  ·exact ⟨w0, rfl⟩
 | @incl y w hy hk d1 ih =>
  intro hr
  rcases p.only y hy hr with ⟨a1, a2, a3⟩ | ⟨r0, w0, a1, a2, a3, rfl⟩
  ·exact ih (has_role ((q.shut y a1 a2).1 _ (more_A (.inl hk))))
  ·exact absurd hk (by show ¬ (1 : Int) = 2; decide)
 | @link y u w hy hk d1 d2 ih1 ih2 =>
  intro hr
  rcases p.only y hy hr with ⟨a1, a2, a3⟩ | ⟨r0, w0, a1, a2, a3, rfl⟩
  ·exact ih2 (has_name ((q.shut y a1 a2).2 _ (via_A hk)))
  ·exact absurd hk (by show ¬ (1 : Int) = 3; decide)
 | @both y w hy hk d1 d2 ih1 ih2 =>
  intro hr
  rcases p.only y hy hr with ⟨a1, a2, a3⟩ | ⟨r0, w0, a1, a2, a3, rfl⟩
  ·exact ih1 (has_role ((q.shut y a1 a2).1 _ (more_A (.inr (.inr hk)))))
  ·exact absurd hk (by show ¬ (1 : Int) = 4; decide)
/-- A stand-in in a role that counts stands in for somebody who is there. -/
theorem Stand.bwd (q : Stand g h st c R L V S f Dom) (p : StandIn g h st c d R L f Dom) {r : Rol} {w : Str} (dr : Der d r w) : hasV R L r = true → (∃ w0, Dom w0 ∧ f w0 = w) → ∃ r0 w0, Dom w0 ∧ onR f r0 = r ∧ f w0 = w ∧ Der c r0 w0 := by
 induction dr with
 | @mem y hy hk =>
  intro hr hw
  rcases p.only y hy hr with ⟨a1, a2, a3⟩ | ⟨r0, w0, a1, a2, a3, rfl⟩
  ·obtain ⟨w0, hd, e⟩ := hw
   have hV := q.vM y a1 a2 hk
   have e2 : w0 = y.2.2.1 := by rw [← e]; exact (q.f2 _ (by rw [e]; exact hV)).symm
   exact ⟨y.1, w0, hd, q.bound hr (fol_parts a2).2, e, by rw [e2]; exact .mem a3 hk⟩
  ·exact ⟨r0, w0, a1, rfl, rfl, a2⟩
 | @incl y w hy hk d1 ih =>
  intro hr hw
  rcases p.only y hy hr with ⟨a1, a2, a3⟩ | ⟨r0, w0, a1, a2, a3, rfl⟩
  ·have hA := (q.shut y a1 a2).1 _ (more_A (.inl hk))
   obtain ⟨r0, w0, b1, b2, b3, b4⟩ := ih (has_role hA) hw
   rw [q.backR hA b2] at b4
   exact ⟨y.1, w0, b1, q.bound hr (fol_parts a2).2, b3, .incl a3 hk b4⟩
  ·exact absurd hk (by show ¬ (1 : Int) = 2; decide)
 | @link y u w hy hk d1 d2 ih1 ih2 =>
  intro hr hw
  rcases p.only y hy hr with ⟨a1, a2, a3⟩ | ⟨r0, w0, a1, a2, a3, rfl⟩
  ·have hA := (q.shut y a1 a2).1 _ (more_A (.inr (.inl hk)))
   have hL := (q.shut y a1 a2).2 _ (via_A hk)
   have hall := q.all y a1 a2 hk
   obtain ⟨u0, hu0⟩ := q.ones p hall d1 (has_role hA)
   obtain ⟨r1, u1, b1, b2, b3, b4⟩ := ih1 (has_role hA) ⟨u0, hall u0, hu0⟩
   rw [q.backR hA b2] at b4
   obtain ⟨⟨r2a, r2b⟩, w2, c1, c2, c3, c4⟩ := ih2 (has_name hL) hw
   unfold onR at c2
   simp only [Prod.mk.injEq] at c2
   obtain ⟨c2a, rfl⟩ := c2
   have b5 := q.sig u1 r2a b1 (hall _) (by rw [b3, c2a]) _ (q.sB y a1 a2 (.inl hk)) b4
   exact ⟨y.1, w2, c1, q.bound hr (fol_parts a2).2, c3, .link a3 hk b5 c4⟩
  ·exact absurd hk (by show ¬ (1 : Int) = 3; decide)
 | @both y w hy hk d1 d2 ih1 ih2 =>
  intro hr hw
  rcases p.only y hy hr with ⟨a1, a2, a3⟩ | ⟨r0, w0, a1, a2, a3, rfl⟩
  ·have hA := (q.shut y a1 a2).1 _ (more_A (.inr (.inr hk)))
   have hB := (q.shut y a1 a2).1 _ (more_B hk)
   obtain ⟨r1, u1, b1, b2, b3, b4⟩ := ih1 (has_role hA) hw
   rw [q.backR hA b2] at b4
   obtain ⟨r2, u2, c1, c2, c3, c4⟩ := ih2 (has_role hB) hw
   rw [q.backR hB c2] at c4
   have b5 := q.sig u1 u2 b1 c1 (by rw [b3, c3]) _ (q.sB y a1 a2 (.inr hk)) b4
   exact ⟨y.1, u2, c1, q.bound hr (fol_parts a2).2, c3, .both a3 hk b5 c4⟩
  ·exact absurd hk (by show ¬ (1 : Int) = 4; decide)
/-- Somebody in one role, and not in another one, has a stand-in who is in the one, and not in the other one. -/
theorem Stand.apart (q : Stand g h st c R L V S f Dom) (p : StandIn g h st c d R L f Dom) {A B : Rol} (hA : A ∈ R) (hB : B ∈ R) (hS : B ∈ S) {x : Str} (hx : Dom x) (h1 : Der c A x) (h2 : ¬ Der c B x) : Der d A (f x) ∧ ¬ Der d B (f x) := by
 refine ⟨?_, fun h3 => ?_⟩
 ·have := q.fwd p h1 (has_role hA) hx
  rw [q.inR hA] at this
  exact this
 ·obtain ⟨r0, w0, b1, b2, b3, b4⟩ := q.bwd p h3 (has_role hB) ⟨x, hx, rfl⟩
  rw [q.backR hB b2] at b4
  exact h2 (q.sig w0 x b1 hx b3 _ hS b4)
end
/-- A row of yes and no as a number. -/
def codeN : List Bool → Nat
 | [] => 0
 | b :: l => (if b then 1 else 0) + 2 * codeN l
theorem codeN_lt : ∀ l : List Bool, codeN l < 2 ^ l.length
 | [] => by decide
 | b :: l => by
  have := codeN_lt l
  rw [List.length_cons, Nat.pow_succ]
  unfold codeN
  split <;> omega
theorem codeN_inj : ∀ {a b : List Bool}, a.length = b.length → codeN a = codeN b → a = b
 | [], [], _, _ => rfl
 | x :: a, y :: b, hl, e => by
  unfold codeN at e
  have h1 : x = y := by cases x <;> cases y <;> simp at e ⊢ <;> omega
  subst h1
  rw [codeN_inj (a := a) (b := b) (by simpa using hl) (by omega)]
/-- Which of the telling roles somebody is in. -/
noncomputable def isDer (c : List Stm) (w : Str) (s : Rol) : Bool := @decide (Der c s w) (Classical.propDecidable _)
theorem isDer_iff {c : List Stm} {w : Str} {s : Rol} : isDer c w s = true ↔ Der c s w := @decide_eq_true_iff _ (Classical.propDecidable _)
noncomputable def profN (c : List Stm) (S : List Rol) (w : Str) : Nat := codeN (S.map (isDer c w))
theorem profN_lt (c : List Stm) (S : List Rol) (w : Str) : profN c S w < 2 ^ S.length := by
 unfold profN
 have := codeN_lt (S.map (isDer c w))
 rwa [List.length_map] at this
theorem profN_eq {c : List Stm} {S : List Rol} {w w' : Str} (e : profN c S w = profN c S w') : ∀ s ∈ S, Der c s w → Der c s w' := by
 unfold profN at e
 have h1 := codeN_inj (by rw [List.length_map, List.length_map]) e
 intro s hs hd
 have h2 := (List.map_inj_left.1 h1) s hs
 have h3 := isDer_iff.2 hd
 rw [h2] at h3
 exact isDer_iff.1 h3
/-- Who stands in: those that are known for themselves, others a fresh one, by the telling roles. -/
noncomputable def standF (V F : List Str) (k : Str → Nat) (w : Str) : Str := if w ∈ V then w else F.getD (k w) []
section
variable {V F : List Str} {k : Str → Nat}
theorem standF_in {w : Str} (h : w ∈ V) : standF V F k w = w := by unfold standF; rw [if_pos h]
theorem standF_fresh {w : Str} (h : w ∉ V) (hk : k w < F.length) : F[k w]? = some (standF V F k w) := by
 unfold standF
 rw [if_neg h, List.getD_eq_getElem?_getD, List.getElem?_eq_getElem hk, Option.getD_some]
theorem standF_back (hF : ∀ x ∈ F, x ∉ V) (hk : ∀ w, k w < F.length) {w : Str} (h : standF V F k w ∈ V) : standF V F k w = w := by
 by_cases hw : w ∈ V
 ·exact standF_in hw
 ·exact absurd h (hF _ (List.mem_of_getElem? (standF_fresh hw (hk w))))
theorem standF_mem (hk : ∀ w, k w < F.length) (w : Str) : standF V F k w ∈ V ∨ standF V F k w ∈ F := by
 by_cases hw : w ∈ V
 ·rw [standF_in hw]; exact .inl hw
 ·exact .inr (List.mem_of_getElem? (standF_fresh hw (hk w)))
theorem standF_same (hF : ∀ x ∈ F, x ∉ V) (hn : F.Nodup) (hk : ∀ w, k w < F.length) {w1 w2 : Str} (e : standF V F k w1 = standF V F k w2) : w1 = w2 ∨ k w1 = k w2 := by
 by_cases h1 : w1 ∈ V
 ·have h3 : standF V F k w2 ∈ V := by rw [← e, standF_in h1]; exact h1
  left
  rw [← standF_in (F := F) (k := k) h1, e]
  exact standF_back hF hk h3
 ·by_cases h2 : w2 ∈ V
  ·have h3 : standF V F k w1 ∈ V := by rw [e, standF_in h2]; exact h2
   left
   rw [← standF_in (F := F) (k := k) h2, ← e]
   exact (standF_back hF hk h3).symm
  ·right
   have a1 := standF_fresh (F := F) h1 (hk w1)
   have a2 := standF_fresh (F := F) h2 (hk w2)
   rw [e, ← a2] at a1
   exact (List.getElem?_inj (hk w1) hn).1 a1
end
/-- Bits by what is chosen. -/
theorem bits_of (T : Nat → Prop) : ∀ n : Nat, ∃ b : Nat, b < 2 ^ n ∧ ∀ i, i < n → (b.testBit i = true ↔ T i)
 | 0 => ⟨0, by decide, fun i h => absurd h (Nat.not_lt_zero _)⟩
 | n + 1 => by
  obtain ⟨b, h1, h2⟩ := bits_of T n
  by_cases ht : T n
  ·refine ⟨2 ^ n + b, by rw [Nat.pow_succ]; omega, fun i hi => ?_⟩
   by_cases e : i = n
   ·subst e
    rw [Nat.testBit_two_pow_add_eq, Nat.testBit_lt_two_pow h1]
    simp [ht]
   ·rw [Nat.testBit_two_pow_add_gt (by omega)]
    exact h2 i (by omega)
  ·refine ⟨b, by rw [Nat.pow_succ]; omega, fun i hi => ?_⟩
   by_cases e : i = n
   ·subst e
    rw [Nat.testBit_lt_two_pow h1]
    simp [ht]
   ·exact h2 i (by omega)
end Go.Proofs.YtckikkkdabpjkaaGreat
